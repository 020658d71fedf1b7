/-
  Ro5: contracts of the functions of the package rotor, the fifth part: the rings of a blade one after another, their sums, the torque and the thrust of a blade.
-/
import Derived.Test.YtllmejkmogepjaaDoorM5
namespace Go.Proofs.YtllmejkmogepjaaDoor.Ix
open Go.Proofs
set_option maxRecDepth 100000
set_option linter.unusedVariables false
set_option linter.unusedSimpArgs false
variable {gl : Nat → IV}

theorem sections_ivis (C : Con) (gl : Nat → IV) (n : Nat) (hn : n ≤ 4611686018427387904) (r1 r2 r3 r4 : Nat → Int) (a b c : Int) (nl nd : Nat) (fl2 fd : Nat → List IV) :
    ivis C (Γs gl) f_rotor_sections_1 [.vptr 3 1 (fun _ => [.lst none 1 nl fl2, .lst none 1 nd fd, .lst none 4 n (fun i => [.int .i64 (r1 i), .int .i64 (r2 i), .int .i64 (r3 i), .int .i64 (r4 i)])]) 0 0, .vptr 3 1 (fun _ => [.int .i64 a, .int .i64 b, .int .i64 c]) 0 0] n
     (fun i => [.agg [.lst none 1 nl fl2, .lst none 1 nd fd, .int .i64 (r1 i), .int .i64 (r2 i), .int .i64 (r3 i), .int .i64 (r4 i), .int .i64 a, .int .i64 b, .int .i64 c]]) := by
  conv => whnf
  intro l
  conv => whnf
  refine .mk (α := {i : Nat // i ≤ n}) (fun i => ⟨[(9, .int .i64 i.1), (8, .int .i64 n), (7, .lst none 4 n (fun i => [.int .i64 (r1 i), .int .i64 (r2 i), .int .i64 (r3 i), .int .i64 (r4 i)])), (2, .vptr 3 1 (fun _ => [.int .i64 a, .int .i64 b, .int .i64 c]) 0 0), (1, .vptr 3 1 (fun _ => [.lst none 1 nl fl2, .lst none 1 nd fd, .lst none 4 n (fun i => [.int .i64 (r1 i), .int .i64 (r2 i), .int .i64 (r3 i), .int .i64 (r4 i)])]) 0 0), (0, .lit (.func (.yield l) #[] #[]))], [], List.replicate i.1 []⟩) (fun i => n - i.1) ⟨0, Nat.zero_le _⟩ ⟨?_, trivial, rfl, rfl⟩ ?_
  · exact ⟨leV_refl _, leV_refl _, leV_refl _, leV_refl _, leV_refl _, leV_refl _, trivial⟩
  · rintro ⟨i, hi⟩
    conv => whnf
    split
    · rename_i hb
      conv => whnf
      split
      · have hlt : i < n := by simpa using hb
        conv => whnf
        refine .mk rfl (by simp) (by simpa using hlt) (by simp) rfl ?_
        intro bb
        cases bb
        · conv => whnf
          show n ≤ (List.replicate (n + 1) [] ++ List.replicate i []).length
          simp; omega
        · conv => whnf
          refine ⟨⟨i + 1, hlt⟩, ⟨?_, trivial, rfl, rfl⟩, ?_⟩
          · have hw : IntKind.i64.wrap ((i : Int) + 1) = ((i + 1 : Nat) : Int) := by
              rw [wrap_in] <;> omega
            exact ⟨leV_int hw, leV_refl _, leV_refl _, leV_refl _, leV_refl _, leV_refl _, trivial⟩
          · show n - (i + 1) < n - i
            omega
      · rename_i h2; rw [hb] at h2; cases h2
    · rename_i hb
      conv => whnf
      simp at hb
      show n ≤ (List.replicate i []).length
      simp; omega

theorem v_sections (gl : Nat → IV) (b : Bl) (f : Fl) (hn : b.nr ≤ 16) : Vis prog gl n_rotor_sections_1 [.vptr 3 1 (fun _ => [.lst none 1 b.nl fun i => [.int .i64 (b.lf i)], .lst none 1 b.nd fun i => [.int .i64 (b.df i)], .lst none 4 b.nr fun i => [.int .i64 (b.r1 i), .int .i64 (b.r2 i), .int .i64 (b.r3 i), .int .i64 (b.r4 i)]]) 0 0, .vptr 3 1 (fun _ => [.int .i64 f.w, .int .i64 f.s, .int .i64 f.p]) 0 0] b.nr (fun i => [secAt b f i]) :=
  vis_of_body (Γ := Γs gl) (C := fun _ _ _ _ _ => False) tok0 (fun _ _ _ _ _ h => h.elim) (fun _ _ _ _ _ h => h.elim) h_rotor_sections_1 rfl rfl (by kernel_rfl) (by kernel_rfl) (sections_ivis _ gl b.nr (by omega) _ _ _ _ _ _ _ _ _ _ _)

def sumTo (g : Nat → Int) : Nat → Int
  | 0 => 0
  | n + 1 => sumTo g n + g n

theorem sumTo_bound {g : Nat → Int} {B : Int} : ∀ (n : Nat), (∀ i, i < n → -B ≤ g i ∧ g i ≤ B) → -(n * B) ≤ sumTo g n ∧ sumTo g n ≤ n * B
  | 0, _ => by simp [sumTo]
  | n + 1, h => by
    have h1 := sumTo_bound n fun i hi => h i (by omega)
    have h2 := h n (by omega)
    simp only [sumTo]
    have e : ((n + 1 : Nat) : Int) * B = n * B + B := by rw [Int.natCast_add, Int.add_mul]; simp
    rw [e]; omega

theorem sumTo_le {g h : Nat → Int} : ∀ (n : Nat), (∀ i, i < n → g i ≤ h i) → sumTo g n ≤ sumTo h n
  | 0, _ => by simp [sumTo]
  | n + 1, k => by
    have h1 := sumTo_le n fun i hi => k i (by omega)
    have h2 := k n (by omega)
    simp only [sumTo]; omega

theorem sumTo_mul {g : Nat → Int} (q : Int) : ∀ (n : Nat), sumTo (fun i => q * g i) n = q * sumTo g n
  | 0 => by simp [sumTo]
  | n + 1 => by simp only [sumTo, sumTo_mul q n]; rw [Int.mul_add]

theorem c_sum (up : List Ces) (n : Nat) (hn : n ≤ 16) (g1 g2 : Nat → Int) (h : ∀ i, i < n → (-1000000000000000 ≤ g1 i ∧ g1 i ≤ 1000000000000000) ∧ (-1000000000000000 ≤ g2 i ∧ g2 i ≤ 1000000000000000)) :
    Cs gl n_rotor_sum up [.lst none 2 n fun i => [.int .i64 (g1 i), .int .i64 (g2 i)]] (.agg [.int .i64 (sumTo g1 n), .int .i64 (sumTo g2 n)]) up := by
  refine mk h_rotor_sum rfl rfl ?_
  conv => whnf
  refine .mk (α := {k : Nat // k ≤ n}) (fun k => ⟨[(8, .int .i64 k.1), (7, .int .i64 n), (6, .lst none 2 n fun i => [.int .i64 (g1 i), .int .i64 (g2 i)]), (2, .ptr 0 2 0), (3, .ptr 0 3 0)], [(3, [.int .i64 (sumTo g1 k.1), .int .i64 (sumTo g2 k.1)]), (2, [.int .i64 0, .int .i64 0])], up⟩) (fun k => n - k.1) ⟨0, Nat.zero_le _⟩ ⟨?_, ?_, rfl, rfl⟩ ?_
  · exact ⟨leV_refl _, leV_refl _, leV_refl _, leV_refl _, leV_refl _, trivial⟩
  · exact ⟨leL_refl _, leL_refl _, trivial⟩
  · rintro ⟨k, hk⟩
    conv => whnf
    split
    · rename_i hb
      have hlt : k < n := by simpa using hb
      conv => whnf
      split
      · have b1 := sumTo_bound (g := g1) (B := 1000000000000000) k fun i hi => (h i (by omega)).1
        have b2 := sumTo_bound (g := g2) (B := 1000000000000000) k fun i hi => (h i (by omega)).2
        have b3 := h k hlt
        have e1 : w64 (sumTo g1 k + g1 k) = sumTo g1 (k + 1) := by rw [w64, wrap_in]; rfl; omega; omega
        have e2 : w64 (sumTo g2 k + g2 k) = sumTo g2 (k + 1) := by rw [w64, wrap_in]; rfl; omega; omega
        conv => whnf
        refine ⟨⟨k + 1, hlt⟩, ⟨⟨leV_int ?_, leV_refl _, leV_refl _, leV_refl _, leV_refl _, trivial⟩, ⟨⟨leV_int e1, leV_int e2, trivial⟩, leL_refl _, trivial⟩, rfl, rfl⟩, ?_⟩
        · show w64 ((k : Int) + 1) = ((k + 1 : Nat) : Int)
          rw [w64, wrap_in] <;> omega
        · show n - (k + 1) < n - k
          omega
      · rename_i h2; rw [hb] at h2; cases h2
    · rename_i hb
      have : k = n := by simp at hb; omega
      subst this
      conv => whnf
      exact ⟨rfl, rfl⟩

def allBr (b : Bl) (f : Fl) (d : Nat) : Prop := ∀ i, i < b.nr → (b.br f i d).isSome = true
instance (b : Bl) (f : Fl) (d : Nat) : Decidable (allBr b f d) := by unfold allBr; infer_instance

/-- What 'each' hands back. -/
def eachR (b : Bl) (f : Fl) (d : Nat) (φ : Nat → Int → Int × Int) : IV :=
  if allBr b f d then .tup [.lst (some 32) 2 b.nr fun i => [.int .i64 (φ i ((b.br f i d).getD 0)).1, .int .i64 (φ i ((b.br f i d).getD 0)).2], .int .i64 0]
  else .tup [.nilS, .int .i64 7]

theorem c_each (up : List Ces) (b : Bl) (f : Fl) (d : Nat) (hd : d < 12) (hb : b.err = 0) (hf : f.err = 0) (F : Nat) (φ : Nat → Int → Int × Int)
    (hF : ∀ up i a, i < b.nr → b.br f i d = some a → Cs gl F up [secAt b f i, .agg [.int .i64 a, .int .i64 ((d + 1 : Nat) : Int)]] (.agg [.int .i64 (φ i a).1, .int .i64 (φ i a).2]) up) :
    Cs gl n_rotor_each up [b.iv, f.iv, .int .i64 ((d + 1 : Nat) : Int), .fn F [] []] (eachR b f d φ) up := by
  refine mk h_rotor_each rfl rfl ?_
  obtain ⟨_, hn1, hn2, ok⟩ := Bl.good hb hf
  conv => whnf
  refine .mk _ _ _ _ _ (leL_refl _) (c_sections _ _ _ _ _ _ _ _ _ _ _ _ _) rfl ?_
  conv => whnf
  let L : Nat → List IV := fun i => [.int .i64 (φ i ((b.br f i d).getD 0)).1, .int .i64 (φ i ((b.br f i d).getD 0)).2]
  refine .mk n_rotor_sections_1 _ b.nr (fun i => [secAt b f i]) rfl rfl (v_sections gl b f hn2) (by kernel_rfl) (fun _ _ => rfl)
    (α := {k : Nat // k ≤ b.nr ∧ ∀ j, j < k → (b.br f j d).isSome = true}) (fun k => ⟨[(6, .ptr 0 6 0), (7, .ptr 0 7 0), (8, .ptr 0 8 0), (9, .ptr 0 9 0), (10, .ptr 0 10 0)],
      [(10, [.lst (some 32) 2 k.1 L]), (9, [.int .i64 0]), (8, [.nilS]), (7, [.fn F [] []]), (6, [.int .i64 ((d + 1 : Nat) : Int)])], up⟩) (fun k => k.1) ⟨0, Nat.zero_le _, fun j hj => by omega⟩ ⟨?_, ?_, rfl, rfl⟩ rfl (fun _ => rfl) ?_ ?_
  · exact ⟨leV_refl _, leV_refl _, leV_refl _, leV_refl _, leV_refl _, trivial⟩
  · exact ⟨⟨rfl, trivial⟩, leL_refl _, leL_refl _, leL_refl _, leL_refl _, trivial⟩
  · rintro ⟨k, hk, hs⟩ hlt
    replace hlt : k < b.nr := hlt
    have hfd := fun up => c_findP (gl := gl) up b f k (ok k hlt) d hd
    conv => whnf
    cases hbr : b.br f k d with
    | none =>
      rw [hbr] at hfd
      refine .mk _ _ _ _ _ (leL_refl _) (hfd _) rfl ?_
      conv => whnf
      refine ⟨?_, rfl⟩
      have hno : ¬ allBr b f d := fun h => by have := h k hlt; rw [hbr] at this; cases this
      unfold eachR
      rw [if_neg hno]
    | some a =>
      rw [hbr] at hfd
      refine .mk _ _ _ _ _ (leL_refl _) (hfd _) rfl ?_
      conv => whnf
      refine .mk 6 (by kernel_rfl) ?_
      conv => whnf
      first | refine CALLQ.mk _ _ _ (leL_refl _) (hF _ k a hlt hbr) rfl ?_ | refine CALL0.mk _ _ _ _ _ (leL_refl _) (hF _ k a hlt hbr) rfl ?_
      conv => whnf
      split
      rotate_left
      · rename_i h
        have h' : decide (k + 1 ≤ 1073741824) = false := h
        simp at h' <;> omega
      conv => whnf
      refine ⟨⟨k + 1, hlt, fun j hj => ?_⟩, rfl, ⟨?_, ?_, rfl, rfl⟩⟩
      · by_cases e : j = k
        · rw [e, hbr]; rfl
        · exact hs j (by omega)
      · exact ⟨leV_refl _, leV_refl _, leV_refl _, leV_refl _, leV_refl _, trivial⟩
      · refine ⟨⟨⟨.inr rfl, rfl, rfl, fun j hj => ?_⟩, trivial⟩, leL_refl _, leL_refl _, leL_refl _, leL_refl _, trivial⟩
        show (if j < k then L j else litF 2 [.int .i64 (φ k a).1, .int .i64 (φ k a).2] (j - k)) = L j
        split
        · rfl
        · have : j = k := by have : j < k + 1 := hj; omega
          subst this
          rw [Nat.sub_self]
          show [IV.int .i64 (φ j a).1, .int .i64 (φ j a).2] = [.int .i64 (φ j ((b.br f j d).getD 0)).1, .int .i64 (φ j ((b.br f j d).getD 0)).2]
          rw [hbr]; rfl
  · rintro ⟨k, hk, hs⟩ heq
    have : k = b.nr := heq
    subst this
    conv => whnf
    refine ⟨?_, rfl⟩
    unfold eachR
    rw [if_pos (show allBr b f d from hs)]

theorem br_rng {b : Bl} {f : Fl} {i d : Nat} (h : b.ok f i) {a : Int} (hbr : b.br f i d = some a) : 0 ≤ a ∧ a < 2 ^ d := by
  have := (brP_some h).1 hbr
  exact ⟨this.1, this.2.1⟩

theorem tor_bound {b : Bl} {f : Fl} {i d : Nat} (h : b.ok f i) (hd : d < 12) {a : Int} (hbr : b.br f i d = some a) :
    (-1000000000000000 ≤ (b.tor f i a (d + 1)).1 ∧ (b.tor f i a (d + 1)).1 ≤ 1000000000000000) ∧ (-1000000000000000 ≤ (b.tor f i a (d + 1)).2 ∧ (b.tor f i a (d + 1)).2 ≤ 1000000000000000) := by
  obtain ⟨h0, h1⟩ := br_rng h hbr
  have hs := Int.pow_succ (2 : Int) d
  have hp := two_pos d
  have r1 := infl_rng h (d := d + 1) (a := a + 1) (by omega) (by omega)
  have r2 := infl_rng h (d := d + 1) (a := a) (by omega) (by omega)
  obtain ⟨x, y, x1, x2, y1, y2, e1, e2⟩ := stepsP_in (n := b.nl) (lf := b.lf) (df := b.df) (r := b.r1 i) (c := b.r2 i) (t := b.r3 i) (tip := b.r4 i) (p := f.p) (inflP_mono h (d := d + 1) (show a ≤ a + 1 by omega)) (b.nl + 2)
  have r1 : 0 ≤ inflP (b.r1 i) f.w f.s (a + 1) (d + 1) := r1.1
  have r2 : inflP (b.r1 i) f.w f.s a (d + 1) ≤ 51200 := r2.2
  have q1 := ofP_bound h (x := x) (by omega) (by omega)
  have q2 := ofP_bound h (x := y) (by omega) (by omega)
  show (-1000000000000000 ≤ (stepsP _ _ _ _ _ _ _ _ _ _ _).1 ∧ _) ∧ _
  rw [e1]
  refine ⟨⟨q1.1, ?_⟩, ?_⟩
  · show (stepsP _ _ _ _ _ _ _ _ _ _ _).1 ≤ _
    rw [e1]; exact q1.2.1
  · show _ ≤ (stepsP _ _ _ _ _ _ _ _ _ _ _).2 ∧ (stepsP _ _ _ _ _ _ _ _ _ _ _).2 ≤ _
    rw [e2]; exact ⟨q2.1, q2.2.1⟩

theorem thr_bound {b : Bl} {f : Fl} {i d : Nat} (h : b.ok f i) (hd : d < 12) {a : Int} (hbr : b.br f i d = some a) :
    (-1000000000000000 ≤ (b.thr i a (d + 1)).1 ∧ (b.thr i a (d + 1)).1 ≤ 1000000000000000) ∧ (-1000000000000000 ≤ (b.thr i a (d + 1)).2 ∧ (b.thr i a (d + 1)).2 ≤ 1000000000000000) := by
  obtain ⟨h0, h1⟩ := br_rng h hbr
  have hs := Int.pow_succ (2 : Int) d
  have hp := two_pos d
  have q1 := thrustP_bound h (d := d + 1) (a := a) (by omega) h0 (by omega)
  have q2 := thrustP_bound h (d := d + 1) (a := a + 1) (by omega) (by omega) (by omega)
  refine ⟨⟨?_, q1.2.1⟩, ?_, q2.2.1⟩
  · have := q1.1
    show _ ≤ thrustP _ _ _; omega
  · have := q2.1
    show _ ≤ thrustP _ _ _; omega

/-- The sums over the rings, or the error. -/
def sumR (b : Bl) (f : Fl) (d : Int) (φ : Nat → Int → Nat → Int × Int) : IV :=
  bif allErr b f d != 0 then .tup [.agg [.int .i64 0, .int .i64 0], .int .i64 (allErr b f d)] else
    if allBr b f (d - 1).toNat then .tup [.agg [.int .i64 (sumTo (fun i => (φ i ((b.br f i (d - 1).toNat).getD 0) d.toNat).1) b.nr), .int .i64 (sumTo (fun i => (φ i ((b.br f i (d - 1).toNat).getD 0) d.toNat).2) b.nr)], .int .i64 0]
    else .tup [.agg [.int .i64 0, .int .i64 0], .int .i64 7]

theorem allErr_ok {b : Bl} {f : Fl} {d : Int} (h : allErr b f d = 0) : b.err = 0 ∧ f.err = 0 ∧ ∃ n : Nat, d = ((n + 1 : Nat) : Int) ∧ n < 12 := by
  unfold allErr at h
  simp only [orE_zero, withinS_zero] at h
  exact ⟨h.1, h.2.1, (d - 1).toNat, by omega, by omega⟩

theorem c_sum0 (up : List Ces) : Cs gl n_rotor_sum up [.nilS] (.agg [.int .i64 0, .int .i64 0]) up := by
  have := c_sum (gl := gl) up 0 (by omega) (fun _ => 0) (fun _ => 0) (fun i hi => by omega)
  refine Comp.le ?_ this
  exact ⟨rfl, trivial⟩

theorem c_Thrust (up : List Ces) (b : Bl) (f : Fl) (d : Int) : Cs gl n_rotor_Thrust up [b.iv, f.iv, .int .i64 d] (sumR b f d (fun i a d => b.thr i a d)) up := by
  refine mk h_rotor_Thrust rfl rfl ?_
  unfold sumR
  conv => whnf
  refine .mk _ _ _ _ _ (leL_refl _) (c_checkAll _ b f _) rfl ?_
  conv => whnf
  split
  · rename_i h
    have h' : (allErr b f d != 0) = true := h
    conv => whnf
    refine ⟨?_, rfl⟩
    rw [h']; rfl
  · rename_i h
    have h' : (allErr b f d != 0) = false := h
    have h0 : allErr b f d = 0 := by simpa using h'
    rw [h', cond_false]
    obtain ⟨g1, g2, n, rfl, g3⟩ := allErr_ok h0
    obtain ⟨_, hn1, hn2, ok⟩ := Bl.good g1 g2
    rw [show (((n + 1 : Nat) : Int) - 1).toNat = n by omega, show (((n + 1 : Nat) : Int)).toNat = n + 1 by omega]
    have hs := Int.pow_succ (2 : Int) n
    have he := fun up => c_each (gl := gl) up b f n g3 g1 g2 n_rotor_section_thrust (fun i a => b.thr i a (n + 1)) fun up i a hi hbr => by
      have := br_rng (ok i hi) hbr
      exact c_thrust up b f i (ok i hi) a (n + 1) (by omega) (by omega) (by omega)
    conv => whnf
    by_cases hall : allBr b f n
    · rw [eachR, if_pos hall] at he
      refine .mk _ _ _ _ _ (leL_refl _) (he _) rfl ?_
      conv => whnf
      refine .mk _ _ _ _ _ (leL_refl _) (c_sum _ _ hn2 _ _ (fun i hi => by obtain ⟨a, ha⟩ := Option.isSome_iff_exists.1 (hall i hi); rw [ha]; exact thr_bound (ok i hi) g3 ha)) rfl ?_
      conv => whnf
      refine ⟨?_, rfl⟩
      rw [if_pos hall]
    · rw [eachR, if_neg hall] at he
      refine .mk _ _ _ _ _ (leL_refl _) (he _) rfl ?_
      conv => whnf
      refine .mk _ _ _ _ _ (leL_refl _) (c_sum0 _) rfl ?_
      conv => whnf
      refine ⟨?_, rfl⟩
      rw [if_neg hall]

/-- The torques of all rings, or the error. -/
def ringsR (b : Bl) (f : Fl) (d : Int) : IV :=
  bif allErr b f d != 0 then .tup [.nilS, .int .i64 (allErr b f d)] else
    if allBr b f (d - 1).toNat then .tup [.lst (some 19) 2 b.nr fun i => [.int .i64 (b.tor f i ((b.br f i (d - 1).toNat).getD 0) d.toNat).1, .int .i64 (b.tor f i ((b.br f i (d - 1).toNat).getD 0) d.toNat).2], .int .i64 0]
    else .tup [.nilS, .int .i64 7]

theorem c_Rings (up : List Ces) (b : Bl) (f : Fl) (d : Int) : Cs gl n_rotor_Rings up [b.iv, f.iv, .int .i64 d] (ringsR b f d) up := by
  refine mk h_rotor_Rings rfl rfl ?_
  unfold ringsR
  conv => whnf
  refine .mk _ _ _ _ _ (leL_refl _) (c_checkAll _ b f _) rfl ?_
  conv => whnf
  split
  · rename_i h
    have h' : (allErr b f d != 0) = true := h
    conv => whnf
    refine ⟨?_, rfl⟩
    rw [h']; rfl
  · rename_i h
    have h' : (allErr b f d != 0) = false := h
    have h0 : allErr b f d = 0 := by simpa using h'
    rw [h', cond_false]
    obtain ⟨g1, g2, n, rfl, g3⟩ := allErr_ok h0
    obtain ⟨hnd, hn1, hn2, ok⟩ := Bl.good g1 g2
    rw [show (((n + 1 : Nat) : Int) - 1).toNat = n by omega, show (((n + 1 : Nat) : Int)).toNat = n + 1 by omega]
    have hs := Int.pow_succ (2 : Int) n
    have he := fun up => c_each (gl := gl) up b f n g3 g1 g2 n_rotor_section_torque (fun i a => b.tor f i a (n + 1)) fun up i a hi hbr => by
      have := br_rng (ok i hi) hbr
      exact c_torque up b f i (ok i hi) hnd a (n + 1) (by omega) (by omega) (by omega)
    conv => whnf
    by_cases hall : allBr b f n
    · rw [eachR, if_pos hall] at he
      refine .mk _ _ _ _ _ (leL_refl _) (he _) rfl ?_
      conv => whnf
      refine ⟨?_, rfl⟩
      rw [if_pos hall]
    · rw [eachR, if_neg hall] at he
      refine .mk _ _ _ _ _ (leL_refl _) (he _) rfl ?_
      conv => whnf
      refine ⟨?_, rfl⟩
      rw [if_neg hall]

theorem c_Torque (up : List Ces) (b : Bl) (f : Fl) (d : Int) : Cs gl n_rotor_Torque up [b.iv, f.iv, .int .i64 d] (sumR b f d (fun i a d => b.tor f i a d)) up := by
  refine mk h_rotor_Torque rfl rfl ?_
  unfold sumR
  have hr := fun up => c_Rings (gl := gl) up b f d
  unfold ringsR at hr
  conv => whnf
  by_cases h' : (allErr b f d != 0) = true
  · rw [h', cond_true] at hr
    refine .mk _ _ _ _ _ (leL_refl _) (hr _) rfl ?_
    conv => whnf
    refine .mk _ _ _ _ _ (leL_refl _) (c_sum0 _) rfl ?_
    conv => whnf
    refine ⟨?_, rfl⟩
    rw [h']; rfl
  · replace h' : (allErr b f d != 0) = false := by simpa using h'
    rw [h', cond_false] at hr ⊢
    have h0 : allErr b f d = 0 := by simpa using h'
    obtain ⟨g1, g2, n, rfl, g3⟩ := allErr_ok h0
    obtain ⟨hnd, hn1, hn2, ok⟩ := Bl.good g1 g2
    rw [show (((n + 1 : Nat) : Int) - 1).toNat = n by omega, show (((n + 1 : Nat) : Int)).toNat = n + 1 by omega] at hr ⊢
    by_cases hall : allBr b f n
    · rw [if_pos hall] at hr
      refine .mk _ _ _ _ _ (leL_refl _) (hr _) rfl ?_
      conv => whnf
      refine .mk _ _ _ _ _ (leL_refl _) (c_sum _ _ hn2 _ _ (fun i hi => by obtain ⟨a, ha⟩ := Option.isSome_iff_exists.1 (hall i hi); rw [ha]; exact tor_bound (ok i hi) g3 ha)) rfl ?_
      conv => whnf
      refine ⟨?_, rfl⟩
      rw [if_pos hall]
    · rw [if_neg hall] at hr
      refine .mk _ _ _ _ _ (leL_refl _) (hr _) rfl ?_
      conv => whnf
      refine .mk _ _ _ _ _ (leL_refl _) (c_sum0 _) rfl ?_
      conv => whnf
      refine ⟨?_, rfl⟩
      rw [if_neg hall]
end Go.Proofs.YtllmejkmogepjaaDoor.Ix

/-
  Rt2: what TopHawseFinest asks, told of brackets, torques and thrusts: the brackets of all depths lie one in another, and so do the sums of torques and thrusts.
-/
namespace Go.Proofs.YtllmejkmogepjaaDoor.Ix
open Go.Proofs
set_option maxRecDepth 100000
set_option linter.unusedVariables false
set_option linter.unusedSimpArgs false
variable {gl : Nat → IV}

/-- A valid blade in a valid flow. -/
structure Good (b : Bl) (f : Fl) : Prop where
  be : b.err = 0
  fe : f.err = 0

theorem Good.all {b : Bl} {f : Fl} (g : Good b f) : b.nd = b.nl ∧ 1 ≤ b.nr ∧ b.nr ≤ 16 ∧ ∀ i, i < b.nr → b.ok f i := Bl.good g.be g.fe

theorem Good.ring {b : Bl} {f : Fl} (g : Good b f) {i : Nat} (hi : i < b.nr) : ringErr b f i = 0 := by
  unfold ringErr
  rw [g.be, g.fe]
  have h1 : decide ((i : Int) < 0) = false := decide_eq_false (by omega)
  have h2 : decide ((i : Int) ≥ b.nr) = false := decide_eq_false (by omega)
  rw [h1, h2]; rfl

theorem dep_ok {D : Nat} (hD : D < 12) : withinS ((D + 1 : Nat) : Int) 1 12 = 0 := by rw [withinS_zero]; omega

theorem findR_ok {b : Bl} {f : Fl} (g : Good b f) {i : Nat} (hi : i < b.nr) {D : Nat} (hD : D < 12) :
    findR b f i ((D + 1 : Nat) : Int) = match b.br f i D with
      | none => .tup [.agg [.int .i64 0, .int .i64 0], .int .i64 7]
      | some a => .tup [.agg [.int .i64 a, .int .i64 ((D + 1 : Nat) : Int)], .int .i64 0] := by
  unfold findR
  simp only
  rw [g.ring hi, dep_ok hD]
  rw [show (((D + 1 : Nat) : Int) - 1).toNat = D by omega, show ((i : Int)).toNat = i by omega]
  rfl

theorem indErr_zero {a : Int} {D : Nat} (hD : D < 12) (h0 : 0 ≤ a) (h1 : a ≤ 2 ^ D) : indErr a ((D + 1 : Nat) : Int) = 0 := by
  unfold indErr
  rw [orE_zero, withinS_zero, withinS_zero, show (((D + 1 : Nat) : Int) - 1).toNat = D by omega]
  omega

theorem balR_ok {b : Bl} {f : Fl} (g : Good b f) {i : Nat} (hi : i < b.nr) {D : Nat} (hD : D < 12) {a : Int} (h0 : 0 ≤ a) (h1 : a ≤ 2 ^ D) :
    balR b f i a ((D + 1 : Nat) : Int) = .tup [.int .i64 (b.bal f i a (D + 1)), .int .i64 0] := by
  unfold balR
  simp only
  rw [g.ring hi, indErr_zero hD h0 h1]
  rw [show (((D + 1 : Nat) : Int)).toNat = D + 1 by omega, show ((i : Int)).toNat = i by omega]
  rfl

/-- The bracket of ring 'i' at the depth 'D + 1', if there is one. -/
def Bl.at (b : Bl) (f : Fl) (i D : Nat) : Int := (b.br f i D).getD 0

theorem br_at {b : Bl} {f : Fl} {i D : Nat} (h : (b.br f i D).isSome = true) : b.br f i D = some (b.at f i D) := by
  unfold Bl.at
  obtain ⟨a, ha⟩ := Option.isSome_iff_exists.1 h
  rw [ha]; rfl

theorem br_none_iff {b : Bl} {f : Fl} {i : Nat} (D E : Nat) : b.br f i D = none ↔ b.br f i E = none := by
  unfold Bl.br
  rw [brP_none, brP_none]

theorem br_some_all {b : Bl} {f : Fl} {i D : Nat} (h : (b.br f i D).isSome = true) (E : Nat) : (b.br f i E).isSome = true := by
  cases hE : b.br f i E with
  | none => rw [(br_none_iff D E).2 hE] at h; cases h
  | some a => rfl

theorem at_br {b : Bl} {f : Fl} {i D : Nat} (ok : b.ok f i) (h : (b.br f i D).isSome = true) : 0 ≤ b.at f i D ∧ b.at f i D < 2 ^ D ∧ b.bal f i (b.at f i D) (D + 1) ≤ 0 ∧ 0 < b.bal f i (b.at f i D + 1) (D + 1) :=
  (brP_some ok).1 (br_at h)

/-- The bracket one bit finer. -/
theorem at_next {b : Bl} {f : Fl} {i D : Nat} (ok : b.ok f i) (h : (b.br f i D).isSome = true) : b.at f i (D + 1) = if 0 < b.bal f i (2 * b.at f i D + 1) (D + 1 + 1) then 2 * b.at f i D else 2 * b.at f i D + 1 := by
  have h1 := ((brP_some ok).1 (br_at h)).finer
  have h2 := (brP_some ok).1 (br_at (br_some_all h (D + 1)))
  exact h2.uniq ok h1

theorem refineR_ok {b : Bl} {f : Fl} (g : Good b f) {i : Nat} (hi : i < b.nr) {D : Nat} (hD : D + 1 < 12) (h : (b.br f i D).isSome = true) :
    refineR b f i (b.at f i D) ((D + 1 : Nat) : Int) = .tup [.agg [.int .i64 (b.at f i (D + 1)), .int .i64 ((D + 1 + 1 : Nat) : Int)], .int .i64 0] := by
  have ok := g.all.2.2.2 i hi
  obtain ⟨a1, a2, a3, a4⟩ := at_br ok h
  have hp := Int.pow_succ (2 : Int) D
  have hd := balP_dbl b.nl b.lf (b.r1 i) (b.r2 i) (b.r3 i) (b.r4 i) f.w f.s f.p (b.at f i D) (D + 1)
  have hd : b.bal f i (2 * b.at f i D) (D + 1 + 1) = 4 * b.bal f i (b.at f i D) (D + 1) := hd
  have hbr : isBr b f i (b.at f i D) (D + 1) = true := by
    unfold isBr
    simp only [Bool.and_eq_true, decide_eq_true_eq]
    exact ⟨by simpa using a2, a3, a4⟩
  have hb2 : isBr b f i (2 * b.at f i D) (D + 1 + 1) = decide (0 < b.bal f i (2 * b.at f i D + 1) (D + 1 + 1)) := by
    unfold isBr
    rw [decide_eq_true (show 2 * b.at f i D < 2 ^ (D + 1 + 1 - 1) by show 2 * b.at f i D < 2 ^ (D + 1); omega), decide_eq_true (show b.bal f i (2 * b.at f i D) (D + 1 + 1) ≤ 0 by omega)]
    rfl
  unfold refineR brErr
  simp only
  rw [g.ring hi, indErr_zero (by omega) a1 (by omega)]
  rw [show (((D + 1 : Nat) : Int)).toNat = D + 1 by omega, show ((i : Int)).toNat = i by omega, hbr, hb2, at_next ok h]
  have h12 : ((((D + 1 : Nat) : Int)) == 12) = false := by
    rw [beq_eq_false_iff_ne]; omega
  rw [h12]
  have e : (((D + 1 : Nat) : Int)) + 1 = ((D + 1 + 1 : Nat) : Int) := by omega
  rw [e]
  by_cases q : 0 < b.bal f i (2 * b.at f i D + 1) (D + 1 + 1)
  · rw [decide_eq_true q, if_pos q]; rfl
  · rw [decide_eq_false q, if_neg q]; rfl

theorem at_deep {b : Bl} {f : Fl} {i D : Nat} (ok : b.ok f i) (h : (b.br f i D).isSome = true) (k : Nat) : 2 ^ k * b.at f i D ≤ b.at f i (D + k) ∧ b.at f i (D + k) + 1 ≤ 2 ^ k * (b.at f i D + 1) := by
  obtain ⟨a', h1, h2, h3⟩ := brP_deep ok (br_at h) k
  have : b.at f i (D + k) = a' := by
    have h1 : b.br f i (D + k) = some a' := h1
    unfold Bl.at; rw [h1]; rfl
  rw [this]; exact ⟨h2, h3⟩

/-! The sums. -/
def Bl.T (b : Bl) (f : Fl) (D : Nat) : Int × Int := (sumTo (fun i => (b.tor f i (b.at f i D) (D + 1)).1) b.nr, sumTo (fun i => (b.tor f i (b.at f i D) (D + 1)).2) b.nr)
def Bl.F (b : Bl) (f : Fl) (D : Nat) : Int × Int := (sumTo (fun i => (b.thr i (b.at f i D) (D + 1)).1) b.nr, sumTo (fun i => (b.thr i (b.at f i D) (D + 1)).2) b.nr)

theorem allBr_iff {b : Bl} {f : Fl} (D E : Nat) : allBr b f D ↔ allBr b f E := ⟨fun h i hi => br_some_all (h i hi) E, fun h i hi => br_some_all (h i hi) D⟩

theorem allErr_zero {b : Bl} {f : Fl} (g : Good b f) {D : Nat} (hD : D < 12) : allErr b f ((D + 1 : Nat) : Int) = 0 := by
  unfold allErr
  rw [g.be, g.fe, dep_ok hD]; rfl

theorem torR_ok {b : Bl} {f : Fl} (g : Good b f) {D : Nat} (hD : D < 12) :
    sumR b f ((D + 1 : Nat) : Int) (fun i a d => b.tor f i a d) = if allBr b f 0 then .tup [.agg [.int .i64 (b.T f D).1, .int .i64 (b.T f D).2], .int .i64 0] else .tup [.agg [.int .i64 0, .int .i64 0], .int .i64 7] := by
  unfold sumR
  rw [allErr_zero g hD, show (((D + 1 : Nat) : Int) - 1).toNat = D by omega, show (((D + 1 : Nat) : Int)).toNat = D + 1 by omega]
  by_cases h : allBr b f 0
  · rw [if_pos h, if_pos ((allBr_iff 0 D).1 h)]; rfl
  · rw [if_neg h, if_neg (fun q => h ((allBr_iff 0 D).2 q))]; rfl

theorem thrR_ok {b : Bl} {f : Fl} (g : Good b f) {D : Nat} (hD : D < 12) :
    sumR b f ((D + 1 : Nat) : Int) (fun i a d => b.thr i a d) = if allBr b f 0 then .tup [.agg [.int .i64 (b.F f D).1, .int .i64 (b.F f D).2], .int .i64 0] else .tup [.agg [.int .i64 0, .int .i64 0], .int .i64 7] := by
  unfold sumR
  rw [allErr_zero g hD, show (((D + 1 : Nat) : Int) - 1).toNat = D by omega, show (((D + 1 : Nat) : Int)).toNat = D + 1 by omega]
  by_cases h : allBr b f 0
  · rw [if_pos h, if_pos ((allBr_iff 0 D).1 h)]; rfl
  · rw [if_neg h, if_neg (fun q => h ((allBr_iff 0 D).2 q))]; rfl

theorem T_nested {b : Bl} {f : Fl} (g : Good b f) (h : allBr b f 0) (D k : Nat) : (b.T f D).1 ≤ (b.T f (D + k)).1 ∧ (b.T f (D + k)).2 ≤ (b.T f D).2 := by
  have key : ∀ i, i < b.nr → (b.tor f i (b.at f i D) (D + 1)).1 ≤ (b.tor f i (b.at f i (D + k)) (D + k + 1)).1 ∧ (b.tor f i (b.at f i (D + k)) (D + k + 1)).2 ≤ (b.tor f i (b.at f i D) (D + 1)).2 := fun i hi => by
    have ok := g.all.2.2.2 i hi
    obtain ⟨h1, h2⟩ := at_deep ok (br_some_all (h i hi) D) k
    have := torqueP_nested ok (d := D + 1) (k := k) h1 h2
    rw [show D + 1 + k = D + k + 1 by omega] at this
    exact this
  exact ⟨sumTo_le _ fun i hi => (key i hi).1, sumTo_le _ fun i hi => (key i hi).2⟩

theorem F_nested {b : Bl} {f : Fl} (g : Good b f) (h : allBr b f 0) (D k : Nat) (hk : D + k < 12) :
    4 ^ k * (b.F f D).1 ≤ (b.F f (D + k)).1 ∧ (b.F f (D + k)).2 ≤ 4 ^ k * (b.F f D).2 ∧ 0 ≤ 4 ^ k * (b.F f D).1 ∧ 4 ^ k * (b.F f D).2 ≤ 16 * 1000000000000000 ∧ 0 ≤ (b.F f (D + k)).1 ∧ (b.F f (D + k)).1 ≤ 16 * 1000000000000000 ∧ 0 ≤ (b.F f (D + k)).2 ∧ (b.F f (D + k)).2 ≤ 16 * 1000000000000000 := by
  have key : ∀ i, i < b.nr → 4 ^ k * (b.thr i (b.at f i D) (D + 1)).1 ≤ (b.thr i (b.at f i (D + k)) (D + k + 1)).1 ∧ (b.thr i (b.at f i (D + k)) (D + k + 1)).2 ≤ 4 ^ k * (b.thr i (b.at f i D) (D + 1)).2 ∧
      0 ≤ 4 ^ k * (b.thr i (b.at f i D) (D + 1)).1 ∧ 4 ^ k * (b.thr i (b.at f i D) (D + 1)).2 ≤ 1000000000000000 ∧ 0 ≤ (b.thr i (b.at f i (D + k)) (D + k + 1)).1 ∧ (b.thr i (b.at f i (D + k)) (D + k + 1)).1 ≤ 1000000000000000 ∧ 0 ≤ (b.thr i (b.at f i (D + k)) (D + k + 1)).2 ∧ (b.thr i (b.at f i (D + k)) (D + k + 1)).2 ≤ 1000000000000000 := fun i hi => by
    have ok := g.all.2.2.2 i hi
    obtain ⟨a1, a2, _, _⟩ := at_br ok (br_some_all (h i hi) D)
    obtain ⟨c1, c2, _, _⟩ := at_br ok (br_some_all (h i hi) (D + k))
    obtain ⟨h1, h2⟩ := at_deep ok (br_some_all (h i hi) D) k
    have hn := thrustP_nested (r := b.r1 i) (d := D) (k := k) (by have := ok.r; omega) a2 h1 h2
    rw [show D + 1 + k = D + k + 1 by omega] at hn
    have hp := two_pos k
    have hs := Int.pow_succ (2 : Int) (D + k)
    have e := Int.pow_add (2 : Int) D k
    have q1 : 2 ^ k * (b.at f i D + 1) ≤ 2 ^ k * 2 ^ D := Int.mul_le_mul_of_nonneg_left (by omega) (by omega)
    have q2 : 2 ^ k * (2 : Int) ^ D = 2 ^ D * 2 ^ k := Int.mul_comm _ _
    have q3 : 0 ≤ 2 ^ k * b.at f i D := Int.mul_nonneg (by omega) a1
    have q4 : 2 ^ k * b.at f i D ≤ 2 ^ k * (b.at f i D + 1) := Int.mul_le_mul_of_nonneg_left (by omega) (by omega)
    have m1 := thrustP_bound ok (d := D + k + 1) (a := 2 ^ k * b.at f i D) (by omega) q3 (by omega)
    have m2 := thrustP_bound ok (d := D + k + 1) (a := 2 ^ k * (b.at f i D + 1)) (by omega) (by omega) (by omega)
    have m3 := thrustP_bound ok (d := D + k + 1) (a := b.at f i (D + k)) (by omega) c1 (by omega)
    have m4 := thrustP_bound ok (d := D + k + 1) (a := b.at f i (D + k) + 1) (by omega) (by omega) (by omega)
    have s1 := thrustP_shift (b.r1 i) (b.at f i D) (D + 1) k
    have s2 := thrustP_shift (b.r1 i) (b.at f i D + 1) (D + 1) k
    rw [show D + 1 + k = D + k + 1 by omega] at s1 s2
    rw [s1] at m1
    rw [s2] at m2
    exact ⟨hn.1, hn.2, m1.1, m2.2.1, m3.1, m3.2.1, m4.1, m4.2.1⟩
  have hn := g.all.2.2.1
  have e1 : 4 ^ k * (b.F f D).1 = sumTo (fun i => 4 ^ k * (b.thr i (b.at f i D) (D + 1)).1) b.nr := (sumTo_mul _ _).symm
  have e2 : 4 ^ k * (b.F f D).2 = sumTo (fun i => 4 ^ k * (b.thr i (b.at f i D) (D + 1)).2) b.nr := (sumTo_mul _ _).symm
  have z : ∀ n, sumTo (fun _ => 0) n = 0 := fun n => by induction n with
    | zero => rfl
    | succ n ih => simp [sumTo, ih]
  have up : ∀ (x : Nat → Int), (∀ i, i < b.nr → x i ≤ 1000000000000000) → sumTo x b.nr ≤ 16 * 1000000000000000 := fun x hx => by
    have h1 := sumTo_le (h := fun _ => 1000000000000000) b.nr hx
    have h2 : ∀ n : Nat, sumTo (fun _ => 1000000000000000) n = n * 1000000000000000 := fun n => by induction n with
      | zero => rfl
      | succ n ih => simp only [sumTo, ih]; omega
    rw [h2] at h1; omega
  have dn : ∀ (x : Nat → Int), (∀ i, i < b.nr → 0 ≤ x i) → 0 ≤ sumTo x b.nr := fun x hx => by
    have h1 := sumTo_le (g := fun _ => 0) b.nr hx
    rw [z] at h1; exact h1
  rw [e1, e2]
  exact ⟨sumTo_le _ fun i hi => (key i hi).1, sumTo_le _ fun i hi => (key i hi).2.1, dn _ fun i hi => (key i hi).2.2.1, up _ fun i hi => (key i hi).2.2.2.1, dn _ fun i hi => (key i hi).2.2.2.2.1, up _ fun i hi => (key i hi).2.2.2.2.2.1,
    dn _ fun i hi => (key i hi).2.2.2.2.2.2.1, up _ fun i hi => (key i hi).2.2.2.2.2.2.2⟩
end Go.Proofs.YtllmejkmogepjaaDoor.Ix

/-
  Ro9: contracts of the functions of the package rotor, the ninth part: Inflow, Class, Times, Conjugate, Best, Limit.
-/
namespace Go.Proofs.YtllmejkmogepjaaDoor.Ix
open Go.Proofs
set_option maxRecDepth 100000
set_option linter.unusedVariables false
set_option linter.unusedSimpArgs false
variable {gl : Nat → IV}

/-- The inflow of a ring at an induction, or the error. -/
def inflR (b : Bl) (f : Fl) (ring a d : Int) : IV :=
  let e := orE (ringErr b f ring) (indErr a d)
  .tup [.int .i64 (bif e != 0 then 0 else b.infl f ring.toNat a d.toNat), .int .i64 e]

theorem c_Inflow (up : List Ces) (b : Bl) (f : Fl) (ring a d : Int) : Cs gl n_rotor_Inflow up [b.iv, f.iv, .int .i64 ring, .agg [.int .i64 a, .int .i64 d]] (inflR b f ring a d) up := by
  refine mk h_rotor_Inflow rfl rfl ?_
  unfold inflR
  simp only
  conv => whnf
  refine .mk 8 (by kernel_rfl) ?_
  conv => whnf
  first | refine CALLQ.mk _ _ _ (leL_refl _) (c_checkRing _ b f _) rfl ?_ | refine CALL0.mk _ _ _ _ _ (leL_refl _) (c_checkRing _ b f _) rfl ?_
  conv => whnf
  first | refine CALLQ.mk _ _ _ (leL_refl _) (c_IndCheck _ _ _) rfl ?_ | refine CALL0.mk _ _ _ _ _ (leL_refl _) (c_IndCheck _ _ _) rfl ?_
  conv => whnf
  first | refine CALLQ.mk _ _ _ (leL_refl _) (c_f2 _ _ _ _ rfl rfl) rfl ?_ | refine CALL0.mk _ _ _ _ _ (leL_refl _) (c_f2 _ _ _ _ rfl rfl) rfl ?_
  conv => whnf
  split
  · rename_i h
    have h' : (orE (ringErr b f ring) (indErr a d) != 0) = true := h
    conv => whnf
    refine ⟨?_, rfl⟩
    rw [h']; rfl
  · rename_i h
    have h' : (orE (ringErr b f ring) (indErr a d) != 0) = false := h
    have h0 : orE (ringErr b f ring) (indErr a d) = 0 := by simpa using h'
    rw [h']
    have hz := h0
    rw [orE_zero] at h0
    obtain ⟨g1, g2, g3, g4⟩ := ringErr_ok h0.1
    obtain ⟨n, rfl, k2, k3, k4⟩ := indErr_ok h0.2
    obtain ⟨_, _, _, ok⟩ := Bl.good g1 g2
    have hp := Int.pow_succ (2 : Int) n
    have hq := two_pos n
    conv => whnf
    refine .mk 12 (by kernel_rfl) ?_
    conv => whnf
    split
    rotate_left
    · rename_i h
      have h' : decide (0 ≤ ring) = false := h
      simp at h' <;> omega
    conv => whnf
    split
    rotate_left
    · rename_i h
      have h' : decide (ring < b.nr) = false := h
      simp at h' <;> omega
    conv => whnf
    first | refine CALLQ.mk _ _ _ (leL_refl _) (c_inflP _ b f ring.toNat (ok _ (by omega)) a _ (n + 1) (by omega) k3 (by omega) rfl) rfl ?_ | refine CALL0.mk _ _ _ _ _ (leL_refl _) (c_inflP _ b f ring.toNat (ok _ (by omega)) a _ (n + 1) (by omega) k3 (by omega) rfl) rfl ?_
    conv => whnf
    refine ⟨?_, rfl⟩
    rw [hz]; rfl

/-- The class of a ring for an inflow, or the error. -/
def classR (b : Bl) (f : Fl) (ring x : Int) : IV :=
  let e := orE (ringErr b f ring) (withinS x 0 999999999)
  .tup [.int .i64 (bif e != 0 then 0 else clsP b.nl (b.r3 ring.toNat) f.p x), .int .i64 e]

theorem classW_eq2 {n : Nat} {lf df : Nat → Int} {r c t tip w s p x : Int} (h : SecOK n lf df r c t tip w s p) (h1 : 0 ≤ x) (h2 : x ≤ 999999999) : classW n t p x = clsP n t p x := by
  have := h.t
  have := h.p
  have := h.n1
  unfold classW clsP
  rw [minW_eq, maxW_eq]
  have e1 : w64 (t + p) = t + p := by rw [w64, wrap_in] <;> omega
  rw [e1]
  have e2 : w64 (x - (t + p)) = x - (t + p) := by rw [w64, wrap_in] <;> omega
  have e3 : w64 ((n : Int) - 1) = n - 1 := by rw [w64, wrap_in] <;> omega
  rw [e2, e3]

theorem c_Class (up : List Ces) (b : Bl) (f : Fl) (ring x : Int) : Cs gl n_rotor_Class up [b.iv, f.iv, .int .i64 ring, .int .i64 x] (classR b f ring x) up := by
  refine mk h_rotor_Class rfl rfl ?_
  unfold classR
  simp only
  conv => whnf
  refine .mk _ _ _ _ _ (leL_refl _) (c_checkRing _ b f _) rfl ?_
  conv => whnf
  refine .mk _ _ _ _ _ (leL_refl _) (c_within _ _ _ _) rfl ?_
  conv => whnf
  refine .mk _ _ _ _ _ (leL_refl _) (c_f2 _ _ _ _ rfl rfl) rfl ?_
  conv => whnf
  split
  · rename_i h
    have h' : (orE (ringErr b f ring) (withinS x 0 999999999) != 0) = true := h
    conv => whnf
    refine ⟨?_, rfl⟩
    rw [h']; rfl
  · rename_i h
    have h' : (orE (ringErr b f ring) (withinS x 0 999999999) != 0) = false := h
    have h0 : orE (ringErr b f ring) (withinS x 0 999999999) = 0 := by simpa using h'
    rw [h']
    have hz := h0
    rw [orE_zero, withinS_zero] at h0
    obtain ⟨g1, g2, g3, g4⟩ := ringErr_ok h0.1
    obtain ⟨_, _, _, ok⟩ := Bl.good g1 g2
    conv => whnf
    refine .mk 12 (by kernel_rfl) ?_
    conv => whnf
    split
    rotate_left
    · rename_i h
      have h' : decide (0 ≤ ring) = false := h
      simp at h' <;> omega
    conv => whnf
    split
    rotate_left
    · rename_i h
      have h' : decide (ring < b.nr) = false := h
      simp at h' <;> omega
    conv => whnf
    first | refine CALLQ.mk _ _ _ (leL_refl _) (c_class _ _ _ _ _ _ _ _ _ _ _ _ _) rfl ?_ | refine CALL0.mk _ _ _ _ _ (leL_refl _) (c_class _ _ _ _ _ _ _ _ _ _ _ _ _) rfl ?_
    conv => whnf
    refine ⟨?_, rfl⟩
    rw [hz]
    show IV.tup [.int .i64 (classW b.nl (b.r3 ring.toNat) f.p x), .int .i64 0] = _
    rw [classW_eq2 (ok _ (by omega)) h0.2.1 h0.2.2]; rfl

def timesR (a b c d : Int) : IV :=
  let e := orE (pairS a b) (pairS c d)
  bif e != 0 then .tup [.agg [.int .i64 0, .int .i64 0], .int .i64 e] else .tup [.agg [.int .i64 (timesP a b c d).1, .int .i64 (timesP a b c d).2], .int .i64 0]

theorem c_Times (up : List Ces) (a b c d : Int) : Cs gl n_rotor_Times up [.agg [.int .i64 a, .int .i64 b], .agg [.int .i64 c, .int .i64 d]] (timesR a b c d) up := by
  refine mk h_rotor_Times rfl rfl ?_
  unfold timesR
  simp only
  conv => whnf
  refine .mk 6 (by kernel_rfl) ?_
  conv => whnf
  first | refine CALLQ.mk _ _ _ (leL_refl _) (c_PairCheck _ _ _) rfl ?_ | refine CALL0.mk _ _ _ _ _ (leL_refl _) (c_PairCheck _ _ _) rfl ?_
  conv => whnf
  first | refine CALLQ.mk _ _ _ (leL_refl _) (c_PairCheck _ _ _) rfl ?_ | refine CALL0.mk _ _ _ _ _ (leL_refl _) (c_PairCheck _ _ _) rfl ?_
  conv => whnf
  first | refine CALLQ.mk _ _ _ (leL_refl _) (c_f2 _ _ _ _ rfl rfl) rfl ?_ | refine CALL0.mk _ _ _ _ _ (leL_refl _) (c_f2 _ _ _ _ rfl rfl) rfl ?_
  conv => whnf
  split
  · rename_i h
    have h : (orE (pairS a b) (pairS c d) != 0) = true := h
    conv => whnf
    refine ⟨?_, rfl⟩
    rw [h]; rfl
  · rename_i h
    have h : (orE (pairS a b) (pairS c d) != 0) = false := h
    rw [h, cond_false]
    have h0 : orE (pairS a b) (pairS c d) = 0 := by simpa using h
    rw [orE_zero] at h0
    obtain ⟨k1, k2⟩ := pairS_ok h0.1
    obtain ⟨k3, k4⟩ := pairS_ok h0.2
    conv => whnf
    refine .mk _ _ _ _ _ (leL_refl _) (c_times _ _ _ _ _ k1 k2 k3 k4) rfl ?_
    conv => whnf
    exact ⟨rfl, rfl⟩

def conjR (a b : Int) : IV := bif pairS a b != 0 then .tup [.agg [.int .i64 0, .int .i64 0], .int .i64 (pairS a b)] else .tup [.agg [.int .i64 (a - b), .int .i64 (-b)], .int .i64 0]

theorem c_Conjugate (up : List Ces) (a b : Int) : Cs gl n_rotor_Conjugate up [.agg [.int .i64 a, .int .i64 b]] (conjR a b) up := by
  refine mk h_rotor_Conjugate rfl rfl ?_
  unfold conjR
  conv => whnf
  refine .mk _ _ _ _ _ (leL_refl _) (c_PairCheck _ _ _) rfl ?_
  conv => whnf
  split
  · rename_i h
    have h : (pairS a b != 0) = true := h
    conv => whnf
    refine ⟨?_, rfl⟩
    rw [h]; rfl
  · rename_i h
    have h : (pairS a b != 0) = false := h
    rw [h, cond_false]
    obtain ⟨k1, k2⟩ := pairS_ok (show pairS a b = 0 by simpa using h)
    have e1 : w64 (a - b) = a - b := by rw [w64, wrap_in] <;> omega
    have e2 : w64 (0 - b) = -b := by rw [w64, wrap_in] <;> omega
    conv => whnf
    refine ⟨?_, rfl⟩
    show IV.tup [.agg [.int .i64 (w64 (a - b)), .int .i64 (w64 (0 - b))], .int .i64 0] = _
    rw [e1, e2]

/-- The error of two pitches. -/
def pitchErr (x y : Int) : Int := orE (withinS x (-64) 64) (orE (withinS y (-64) 64) (bif decide (y < x) then 11 else 0))

theorem c_checkPitches (up : List Ces) (x y : Int) : Cs gl n_rotor_checkPitches up [.int .i64 x, .int .i64 y] (.int .i64 (pitchErr x y)) up := by
  refine mk h_rotor_checkPitches rfl rfl ?_
  conv => whnf
  refine .mk _ _ _ _ _ (leL_refl _) (c_within _ _ _ _) rfl ?_
  conv => whnf
  refine .mk _ _ _ _ _ (leL_refl _) (c_within _ _ _ _) rfl ?_
  conv => whnf
  refine .mk _ _ _ _ _ (leL_refl _) (c_when _ _ _) rfl ?_
  conv => whnf
  refine .mk _ _ _ _ _ (leL_refl _) (c_f3 _ _ _ _ _ rfl rfl rfl) rfl ?_
  conv => whnf
  exact ⟨rfl, rfl⟩

theorem pitchErr_ok {x y : Int} (h : pitchErr x y = 0) : -64 ≤ x ∧ x ≤ y ∧ y ≤ 64 := by
  unfold pitchErr at h
  simp only [orE_zero, withinS_zero] at h
  rw [bif_zero (by decide)] at h
  simp at h
  omega

def Fl.at (f : Fl) (p : Int) : Fl := ⟨f.w, f.s, p⟩

theorem Fl.at_err {f : Fl} (h : f.err = 0) {p : Int} (h1 : -64 ≤ p) (h2 : p ≤ 64) : (f.at p).err = 0 := by
  unfold Fl.err flowS at *
  simp only [orE_zero, withinS_zero] at *
  exact ⟨h.1, h.2.1, h1, h2⟩

/-- The torques' sums, if all rings have brackets. -/
def Bl.tq (b : Bl) (f : Fl) (D : Nat) : Option (Int × Int) :=
  if allBr b f D then some (sumTo (fun i => (b.tor f i ((b.br f i D).getD 0) (D + 1)).1) b.nr, sumTo (fun i => (b.tor f i ((b.br f i D).getD 0) (D + 1)).2) b.nr) else none

def pitR (o : Option (Int × Int)) : IV := match o with
  | some t => .tup [.agg [.int .i64 t.1, .int .i64 t.2], .bool true]
  | none => .tup [.agg [.int .i64 0, .int .i64 0], .bool false]

theorem c_pitched (up : List Ces) (b : Bl) (f : Fl) (D : Nat) (hD : D < 12) (p : Int) (hb : b.err = 0) (hf : (f.at p).err = 0) :
    Cs gl n_rotor_pitched up [b.iv, f.iv, .int .i64 ((D + 1 : Nat) : Int), .int .i64 p] (pitR (b.tq (f.at p) D)) up := by
  refine mk h_rotor_pitched rfl rfl ?_
  obtain ⟨hnd, hn1, hn2, ok⟩ := Bl.good hb hf
  have hs := Int.pow_succ (2 : Int) D
  have he := fun up => c_each (gl := gl) up b (f.at p) D hD hb hf n_rotor_section_torque (fun i a => b.tor (f.at p) i a (D + 1)) fun up i a hi hbr => by
    have := br_rng (ok i hi) hbr
    exact c_torque up b (f.at p) i (ok i hi) hnd a (D + 1) (by omega) (by omega) (by omega)
  unfold Bl.tq
  conv => whnf
  by_cases hall : allBr b (f.at p) D
  · rw [eachR, if_pos hall] at he
    refine .mk _ _ _ _ _ (leL_refl _) (he _) rfl ?_
    conv => whnf
    refine .mk _ _ _ _ _ (leL_refl _) (c_sum _ _ hn2 _ _ (fun i hi => by obtain ⟨a, ha⟩ := Option.isSome_iff_exists.1 (hall i hi); rw [ha]; exact tor_bound (ok i hi) hD ha)) rfl ?_
    conv => whnf
    refine ⟨?_, rfl⟩
    rw [if_pos hall]; rfl
  · rw [eachR, if_neg hall] at he
    refine .mk _ _ _ _ _ (leL_refl _) (he _) rfl ?_
    conv => whnf
    refine .mk _ _ _ _ _ (leL_refl _) (c_sum0 _) rfl ?_
    conv => whnf
    refine ⟨?_, rfl⟩
    rw [if_neg hall]; rfl

/-- The best one of k pitches. -/
def bestTo (g : Int → Option (Int × Int)) (x : Int) : Nat → Int × (Int × Int) × Bool
  | 0 => (0, (0, 0), false)
  | k + 1 => match g (x + k) with
    | some t => bif !(bestTo g x k).2.2 || decide (t.1 > (bestTo g x k).2.1.1) then (x + k, t, true) else bestTo g x k
    | none => bestTo g x k

def bestErr (b : Bl) (f : Fl) (d x y : Int) : Int := orE (allErr b f d) (pitchErr x y)
def bestOf (b : Bl) (f : Fl) (d x y : Int) : Int × (Int × Int) × Bool := bestTo (fun p => b.tq (f.at p) (d - 1).toNat) x (y + 1 - x).toNat
def bestR (b : Bl) (f : Fl) (d x y : Int) : IV :=
  bif bestErr b f d x y != 0 then .tup [.int .i64 0, .agg [.int .i64 0, .int .i64 0], .int .i64 (bestErr b f d x y)] else
    .tup [.int .i64 (bestOf b f d x y).1, .agg [.int .i64 (bestOf b f d x y).2.1.1, .int .i64 (bestOf b f d x y).2.1.2], .int .i64 (bif !(bestOf b f d x y).2.2 then 7 else 0)]

theorem c_Best (up : List Ces) (b : Bl) (f : Fl) (d x y : Int) : Cs gl n_rotor_Best up [b.iv, f.iv, .int .i64 d, .int .i64 x, .int .i64 y] (bestR b f d x y) up := by
  refine mk h_rotor_Best rfl rfl ?_
  unfold bestR
  conv => whnf
  refine .mk _ _ _ _ _ (leL_refl _) (c_checkAll _ b f _) rfl ?_
  conv => whnf
  refine .mk _ _ _ _ _ (leL_refl _) (c_checkPitches _ _ _) rfl ?_
  conv => whnf
  refine .mk _ _ _ _ _ (leL_refl _) (c_f2 _ _ _ _ rfl rfl) rfl ?_
  conv => whnf
  split
  · rename_i h
    have h : (bestErr b f d x y != 0) = true := h
    conv => whnf
    refine ⟨?_, rfl⟩
    rw [h]; rfl
  · rename_i h
    have h : (bestErr b f d x y != 0) = false := h
    rw [h, cond_false]
    have h0 : bestErr b f d x y = 0 := by simpa using h
    unfold bestErr at h0
    rw [orE_zero] at h0
    obtain ⟨g1, g2, n, rfl, g3⟩ := allErr_ok h0.1
    obtain ⟨p1, p2, p3⟩ := pitchErr_ok h0.2
    clear h h0
    obtain ⟨N, hN⟩ : ∃ N : Nat, y + 1 - x = N := ⟨(y + 1 - x).toNat, by omega⟩
    have eB : bestOf b f ((n + 1 : Nat) : Int) x y = bestTo (fun p => b.tq (f.at p) n) x N := by
      unfold bestOf
      rw [hN, show (((n + 1 : Nat) : Int) - 1).toNat = n by omega]; rfl
    rw [eB]
    obtain ⟨g, hg⟩ : ∃ g : Int → Option (Int × Int), g = fun p => b.tq (f.at p) n := ⟨_, rfl⟩
    rw [← hg]
    have hpit : ∀ up p, -64 ≤ p → p ≤ 64 → Cs gl n_rotor_pitched up [b.iv, f.iv, .int .i64 ((n + 1 : Nat) : Int), .int .i64 p] (pitR (g p)) up := fun up p q1 q2 => by
      rw [hg]; exact c_pitched up b f n g3 p g1 (Fl.at_err g2 q1 q2)
    clear hg eB
    conv => whnf
    refine .mk (α := {k : Nat // k ≤ N}) (fun k => ⟨[(17, .int .i64 (x + k.1)), (16, .bool (bestTo g x k.1).2.2), (14, .int .i64 (bestTo g x k.1).1), (4, .int .i64 y), (2, .int .i64 ((n + 1 : Nat) : Int)), (5, .ptr 0 5 0), (6, .ptr 0 6 0), (11, .ptr 0 11 0), (15, .ptr 0 15 0)],
      [(15, [.int .i64 (bestTo g x k.1).2.1.1, .int .i64 (bestTo g x k.1).2.1.2]), (11, [.int .i64 0, .int .i64 0]), (6, [.int .i64 f.w, .int .i64 f.s, .int .i64 f.p]),
       (5, [.lst none 1 b.nl fun i => [.int .i64 (b.lf i)], .lst none 1 b.nd fun i => [.int .i64 (b.df i)], .lst none 4 b.nr fun i => [.int .i64 (b.r1 i), .int .i64 (b.r2 i), .int .i64 (b.r3 i), .int .i64 (b.r4 i)]])], up⟩) (fun k => N - k.1) ⟨0, Nat.zero_le _⟩ ⟨?_, ?_, rfl, rfl⟩ ?_
    · exact ⟨leV_int (by show x = x + ((0 : Nat) : Int); omega), leV_refl _, leV_refl _, leV_refl _, leV_refl _, leV_refl _, leV_refl _, leV_refl _, leV_refl _, trivial⟩
    · exact ⟨leL_refl _, leL_refl _, leL_refl _, leL_refl _, trivial⟩
    rintro ⟨k, hk⟩
    have hw : w64 (x + k + 1) = x + ((k + 1 : Nat) : Int) := by rw [w64, wrap_in] <;> omega
    conv => whnf
    split
    · rename_i h
      have h : decide (x + k ≤ y) = true := h
      have hlt : k < N := by simp at h; omega
      have hp := fun up => hpit up (x + k) (by omega) (by omega)
      have hstep : bestTo g x (k + 1) = match g (x + k) with
        | some t => bif !(bestTo g x k).2.2 || decide (t.1 > (bestTo g x k).2.1.1) then (x + k, t, true) else bestTo g x k
        | none => bestTo g x k := rfl
      cases hgk : g (x + k) with
      | none =>
        rw [hgk] at hp hstep
        simp only at hstep
        conv => whnf
        refine .mk _ _ _ _ _ (leL_refl _) (hp _) rfl ?_
        conv => whnf
        refine ⟨⟨k + 1, hlt⟩, ⟨⟨leV_int hw, ?_, ?_, leV_refl _, leV_refl _, leV_refl _, leV_refl _, leV_refl _, leV_refl _, trivial⟩, ⟨?_, leL_refl _, leL_refl _, leL_refl _, trivial⟩, rfl, rfl⟩, (by show N - (k + 1) < N - k; omega)⟩
        · simp only [hstep]; exact leV_refl _
        · simp only [hstep]; exact leV_refl _
        · simp only [hstep]; exact leL_refl _
      | some t =>
        rw [hgk] at hp hstep
        simp only at hstep
        obtain ⟨B, hB⟩ : ∃ B, B = bestTo g x k := ⟨_, rfl⟩
        rw [← hB] at hstep ⊢
        obtain ⟨b1, ⟨b2, b3⟩, b4⟩ := B
        conv => whnf
        refine .mk _ _ _ _ _ (leL_refl _) (hp _) rfl ?_
        conv => whnf
        cases b4 with
        | false =>
          simp only [Bool.not_false, Bool.true_or, cond_true] at hstep
          conv => whnf
          refine .mk 3 (by kernel_rfl) ?_
          conv => whnf
          refine ⟨⟨k + 1, hlt⟩, ⟨⟨leV_int hw, ?_, ?_, leV_refl _, leV_refl _, leV_refl _, leV_refl _, leV_refl _, leV_refl _, trivial⟩, ⟨?_, leL_refl _, leL_refl _, leL_refl _, trivial⟩, rfl, rfl⟩, (by show N - (k + 1) < N - k; omega)⟩
          · simp only [hstep]; exact leV_refl _
          · simp only [hstep]; exact leV_refl _
          · simp only [hstep]; exact leL_refl _
        | true =>
          simp only [Bool.not_true, Bool.false_or] at hstep
          conv => whnf
          split
          · rename_i h
            have h : decide (t.1 > b2) = true := h
            rw [h, cond_true] at hstep
            conv => whnf
            refine .mk 3 (by kernel_rfl) ?_
            conv => whnf
            refine ⟨⟨k + 1, hlt⟩, ⟨⟨leV_int hw, ?_, ?_, leV_refl _, leV_refl _, leV_refl _, leV_refl _, leV_refl _, leV_refl _, trivial⟩, ⟨?_, leL_refl _, leL_refl _, leL_refl _, trivial⟩, rfl, rfl⟩, (by show N - (k + 1) < N - k; omega)⟩
            · simp only [hstep]; exact leV_refl _
            · simp only [hstep]; exact leV_refl _
            · simp only [hstep]; exact leL_refl _
          · rename_i h
            have h : decide (t.1 > b2) = false := h
            rw [h, cond_false] at hstep
            conv => whnf
            refine ⟨⟨k + 1, hlt⟩, ⟨⟨leV_int hw, ?_, ?_, leV_refl _, leV_refl _, leV_refl _, leV_refl _, leV_refl _, leV_refl _, trivial⟩, ⟨?_, leL_refl _, leL_refl _, leL_refl _, trivial⟩, rfl, rfl⟩, (by show N - (k + 1) < N - k; omega)⟩
            · simp only [hstep]; exact leV_refl _
            · simp only [hstep]; exact leV_refl _
            · simp only [hstep]; exact leL_refl _
    · rename_i h
      have h : decide (x + k ≤ y) = false := h
      have : k = N := by simp at h; omega
      subst this
      conv => whnf
      refine .mk 6 (by kernel_rfl) ?_
      conv => whnf
      first | refine CALLQ.mk _ _ _ (leL_refl _) (c_when _ _ _) rfl ?_ | refine CALL0.mk _ _ _ _ _ (leL_refl _) (c_when _ _ _) rfl ?_
      conv => whnf
      exact ⟨rfl, rfl⟩

/-- The first of some pitches that keeps a limit. -/
def limTo (g : Int → Option (Int × Int)) (m : Int) : Nat → Int → Option Int
  | 0, _ => none
  | k + 1, p => match g p with
    | some t => bif decide (t.2 ≤ m) then some p else limTo g m k (p + 1)
    | none => limTo g m k (p + 1)

def limErr (b : Bl) (f : Fl) (d x y m : Int) : Int := orE (allErr b f d) (orE (pitchErr x y) (withinS m (-1152921504606846976) 1152921504606846976))
def limOf (b : Bl) (f : Fl) (d x y m : Int) : Option Int := limTo (fun p => b.tq (f.at p) (d - 1).toNat) m (y + 1 - x).toNat x
def limR (b : Bl) (f : Fl) (d x y m : Int) : IV :=
  bif limErr b f d x y m != 0 then .tup [.int .i64 0, .int .i64 (limErr b f d x y m)] else
    match limOf b f d x y m with
    | some p => .tup [.int .i64 p, .int .i64 0]
    | none => .tup [.int .i64 0, .int .i64 7]

theorem limTo_rng (g : Int → Option (Int × Int)) (m : Int) : ∀ (k : Nat) (p q : Int), limTo g m k p = some q → p ≤ q ∧ q < p + k
  | 0, p, q, h => by simp [limTo] at h
  | k + 1, p, q, h => by
    simp only [limTo] at h
    have ih := limTo_rng g m k (p + 1) q
    split at h
    · cases hc : decide (_ ≤ m) with
      | true => rw [hc, cond_true] at h; cases h; omega
      | false => rw [hc, cond_false] at h; have := ih h; omega
    · have := ih h; omega

theorem c_Limit (up : List Ces) (b : Bl) (f : Fl) (d x y m : Int) : Cs gl n_rotor_Limit up [b.iv, f.iv, .int .i64 d, .int .i64 x, .int .i64 y, .int .i64 m] (limR b f d x y m) up := by
  refine mk h_rotor_Limit rfl rfl ?_
  unfold limR
  conv => whnf
  refine .mk _ _ _ _ _ (leL_refl _) (c_checkAll _ b f _) rfl ?_
  conv => whnf
  refine .mk _ _ _ _ _ (leL_refl _) (c_checkPitches _ _ _) rfl ?_
  conv => whnf
  refine .mk _ _ _ _ _ (leL_refl _) (c_within _ _ _ _) rfl ?_
  conv => whnf
  refine .mk _ _ _ _ _ (leL_refl _) (c_f3 _ _ _ _ _ rfl rfl rfl) rfl ?_
  conv => whnf
  split
  · rename_i h
    have h : (limErr b f d x y m != 0) = true := h
    conv => whnf
    refine ⟨?_, rfl⟩
    rw [h]; rfl
  · rename_i h
    have h : (limErr b f d x y m != 0) = false := h
    rw [h, cond_false]
    have h0 : limErr b f d x y m = 0 := by simpa using h
    unfold limErr at h0
    simp only [orE_zero, withinS_zero] at h0
    obtain ⟨g1, g2, n, rfl, g3⟩ := allErr_ok h0.1
    obtain ⟨p1, p2, p3⟩ := pitchErr_ok h0.2.1
    clear h h0
    obtain ⟨N, hN⟩ : ∃ N : Nat, y + 1 - x = N := ⟨(y + 1 - x).toNat, by omega⟩
    have eB : limOf b f ((n + 1 : Nat) : Int) x y m = limTo (fun p => b.tq (f.at p) n) m N x := by
      unfold limOf
      rw [hN, show (((n + 1 : Nat) : Int) - 1).toNat = n by omega]; rfl
    rw [eB]
    obtain ⟨g, hg⟩ : ∃ g : Int → Option (Int × Int), g = fun p => b.tq (f.at p) n := ⟨_, rfl⟩
    rw [← hg]
    have hpit : ∀ up p, -64 ≤ p → p ≤ 64 → Cs gl n_rotor_pitched up [b.iv, f.iv, .int .i64 ((n + 1 : Nat) : Int), .int .i64 p] (pitR (g p)) up := fun up p q1 q2 => by
      rw [hg]; exact c_pitched up b f n g3 p g1 (Fl.at_err g2 q1 q2)
    clear hg eB
    obtain ⟨R, hR⟩ : ∃ R, R = limTo g m N x := ⟨_, rfl⟩
    rw [← hR]
    have hw1 : w64 (y + 1) = y + 1 := by rw [w64, wrap_in] <;> omega
    conv => whnf
    refine .mk (α := {k : Nat // k ≤ N ∧ R = limTo g m (N - k) (x + k)}) (fun k => ⟨[(16, .int .i64 (x + k.1)), (15, .int .i64 (y + 1)), (5, .int .i64 m), (4, .int .i64 y), (2, .int .i64 ((n + 1 : Nat) : Int)), (6, .ptr 0 6 0), (7, .ptr 0 7 0)],
      [(7, [.int .i64 f.w, .int .i64 f.s, .int .i64 f.p]),
       (6, [.lst none 1 b.nl fun i => [.int .i64 (b.lf i)], .lst none 1 b.nd fun i => [.int .i64 (b.df i)], .lst none 4 b.nr fun i => [.int .i64 (b.r1 i), .int .i64 (b.r2 i), .int .i64 (b.r3 i), .int .i64 (b.r4 i)]])], up⟩) (fun k => N - k.1) ⟨0, Nat.zero_le _, by rw [hR]; simp⟩ ⟨?_, ?_, rfl, rfl⟩ ?_
    · exact ⟨leV_int (by show x = x + ((0 : Nat) : Int); omega), leV_int hw1, leV_refl _, leV_refl _, leV_refl _, leV_refl _, leV_refl _, trivial⟩
    · exact ⟨leL_refl _, leL_refl _, trivial⟩
    rintro ⟨k, hk, hRk⟩
    have hw : w64 (x + k + 1) = x + ((k + 1 : Nat) : Int) := by rw [w64, wrap_in] <;> omega
    conv => whnf
    split
    · rename_i h
      have h : decide (x + k ≤ y) = true := h
      have hlt : k < N := by simp at h; omega
      have hp := fun up => hpit up (x + k) (by omega) (by omega)
      have hstep : limTo g m (N - k) (x + k) = match g (x + k) with
          | some t => bif decide (t.2 ≤ m) then some (x + k) else limTo g m (N - (k + 1)) (x + ((k + 1 : Nat) : Int))
          | none => limTo g m (N - (k + 1)) (x + ((k + 1 : Nat) : Int)) := by
        rw [show N - k = (N - (k + 1)) + 1 by omega, show x + ((k + 1 : Nat) : Int) = x + k + 1 by omega]; rfl
      cases hgk : g (x + k) with
      | none =>
        rw [hgk] at hp hstep
        conv => whnf
        refine .mk _ _ _ _ _ (leL_refl _) (hp _) rfl ?_
        conv => whnf
        exact ⟨⟨k + 1, hlt, by rw [hRk, hstep]⟩, ⟨⟨leV_int hw, leV_refl _, leV_refl _, leV_refl _, leV_refl _, leV_refl _, leV_refl _, trivial⟩, ⟨leL_refl _, leL_refl _, trivial⟩, rfl, rfl⟩, (by show N - (k + 1) < N - k; omega)⟩
      | some t =>
        rw [hgk] at hp hstep
        simp only at hstep
        conv => whnf
        refine .mk _ _ _ _ _ (leL_refl _) (hp _) rfl ?_
        conv => whnf
        split
        · rename_i h
          have h : decide (t.2 ≤ m) = true := h
          rw [h, cond_true] at hstep
          conv => whnf
          split
          · rename_i h
            have h : decide (x + k > y) = true := h
            simp at h; omega
          · conv => whnf
            refine ⟨?_, rfl⟩
            show IV.tup [.int .i64 (x + k), .int .i64 0] = _
            have hRR : R = some (x + k) := hRk.trans hstep
            rw [hRR]
        · rename_i h
          have h : decide (t.2 ≤ m) = false := h
          rw [h, cond_false] at hstep
          conv => whnf
          exact ⟨⟨k + 1, hlt, by rw [hRk, hstep]⟩, ⟨⟨leV_int hw, leV_refl _, leV_refl _, leV_refl _, leV_refl _, leV_refl _, leV_refl _, trivial⟩, ⟨leL_refl _, leL_refl _, trivial⟩, rfl, rfl⟩, (by show N - (k + 1) < N - k; omega)⟩
    · rename_i h
      have h : decide (x + k ≤ y) = false := h
      have : k = N := by simp at h; omega
      subst this
      rw [Nat.sub_self] at hRk
      conv => whnf
      split
      · conv => whnf
        refine ⟨?_, rfl⟩
        rw [hRk]; rfl
      · rename_i h
        have h : decide (y + 1 > y) = false := h
        simp at h; omega
end Go.Proofs.YtllmejkmogepjaaDoor.Ix

/-
  Rw2: plain laws: all twists one less and the pitch one more change nothing; nor do twice the chord and half of the tip.
-/
namespace Go.Proofs.YtllmejkmogepjaaDoor.Ix
set_option linter.unusedVariables false
set_option linter.unusedSimpArgs false

/-- All twists one less. -/
def Bl.tw (b : Bl) : Bl := { b with r3 := fun i => b.r3 i - 1 }
/-- Twice the chord, half of the tip. -/
def Bl.ch (b : Bl) : Bl := { b with r2 := fun i => 2 * b.r2 i, r4 := fun i => b.r4 i / 2 }

theorem clsP_tw (n : Nat) (t p x : Int) : clsP n (t - 1) (p + 1) x = clsP n t p x := by
  unfold clsP
  rw [show t - 1 + (p + 1) = t + p by omega]

theorem balP_tw (n : Nat) (lf : Nat → Int) (r c t tip w s p a : Int) (d : Nat) : balP n lf r c (t - 1) tip w s (p + 1) a d = balP n lf r c t tip w s p a d := by
  unfold balP
  rw [clsP_tw]

theorem ofP_tw (n : Nat) (lf df : Nat → Int) (r c t tip p x : Int) : ofP n lf df r c (t - 1) tip (p + 1) x = ofP n lf df r c t tip p x := by
  unfold ofP
  rw [clsP_tw]

theorem stepsP_tw (n : Nat) (lf df : Nat → Int) (r c t tip p least most : Int) : ∀ k, stepsP n lf df r c (t - 1) tip (p + 1) least most k = stepsP n lf df r c t tip p least most k
  | 0 => by simp only [stepsP, ofP_tw]
  | k + 1 => by
    simp only [stepsP, ofP_tw, stepsP_tw n lf df r c t tip p least most k]
    rw [show t - 1 + (p + 1) + (k : Int) - 1 = t + p + k - 1 by omega]

theorem br_tw (b : Bl) (f : Fl) (p : Int) (i D : Nat) : b.tw.br (f.at (p + 1)) i D = b.br (f.at p) i D := by
  show brP b.nl b.lf (b.r1 i) (b.r2 i) (b.r3 i - 1) (b.r4 i) f.w f.s (p + 1) D = brP b.nl b.lf (b.r1 i) (b.r2 i) (b.r3 i) (b.r4 i) f.w f.s p D
  unfold brP
  simp only [balP_tw]

theorem tor_tw (b : Bl) (f : Fl) (p : Int) (i : Nat) (a : Int) (d : Nat) : b.tw.tor (f.at (p + 1)) i a d = b.tor (f.at p) i a d := by
  show torqueP b.nl b.lf b.df (b.r1 i) (b.r2 i) (b.r3 i - 1) (b.r4 i) f.w f.s (p + 1) a d = torqueP b.nl b.lf b.df (b.r1 i) (b.r2 i) (b.r3 i) (b.r4 i) f.w f.s p a d
  unfold torqueP
  exact stepsP_tw ..

theorem tq_tw (b : Bl) (f : Fl) (p : Int) (D : Nat) : b.tw.tq (f.at (p + 1)) D = b.tq (f.at p) D := by
  have h : allBr b.tw (f.at (p + 1)) D ↔ allBr b (f.at p) D := by
    unfold allBr
    show (∀ i, i < b.nr → _) ↔ _
    simp only [br_tw]
  unfold Bl.tq
  by_cases q : allBr b (f.at p) D
  · rw [if_pos q, if_pos (h.2 q)]
    simp only [br_tw, tor_tw]
    rfl
  · rw [if_neg q, if_neg (fun x => q (h.1 x))]

/-- The best of the pitches one more. -/
theorem bestTo_tw (g h : Int → Option (Int × Int)) (x : Int) (hg : ∀ p, h (p + 1) = g p) : ∀ k, (bestTo h (x + 1) k).2 = (bestTo g x k).2 ∧ ((bestTo g x k).2.2 = true → (bestTo h (x + 1) k).1 = (bestTo g x k).1 + 1)
  | 0 => ⟨rfl, fun h => by cases h⟩
  | k + 1 => by
    obtain ⟨i1, i2⟩ := bestTo_tw g h x hg k
    simp only [bestTo]
    rw [show x + 1 + (k : Int) = x + k + 1 by omega, hg]
    cases g (x + k) with
    | none => exact ⟨i1, i2⟩
    | some t =>
      simp only [i1]
      cases (!(bestTo g x k).2.2 || decide (t.1 > (bestTo g x k).2.1.1)) with
      | true => exact ⟨rfl, fun _ => rfl⟩
      | false => exact ⟨i1, i2⟩

theorem two_half {tip : Int} (h : tip % 2 = 0) (c : Int) : 2 * c * (tip / 2) = c * tip := by
  have : tip = 2 * (tip / 2) := by omega
  rw [Int.mul_comm 2 c, Int.mul_assoc, ← this]

theorem balP_ch (n : Nat) (lf : Nat → Int) (r c t tip w s p a : Int) (d : Nat) (h : tip % 2 = 0) : balP n lf r (2 * c) t (tip / 2) w s p a d = balP n lf r c t tip w s p a d := by
  unfold balP
  have e : ∀ q : Int, q * (2 * c) * (tip / 2) = q * c * tip := fun q => by
    rw [Int.mul_assoc q (2 * c), two_half h, Int.mul_assoc]
  rw [e]

theorem ofP_ch (n : Nat) (lf df : Nat → Int) (r c t tip p x : Int) (h : tip % 2 = 0) : ofP n lf df r (2 * c) t (tip / 2) p x = ofP n lf df r c t tip p x := by
  unfold ofP
  have e : ∀ q : Int, q * (2 * c) * (tip / 2) = q * c * tip := fun q => by
    rw [Int.mul_assoc q (2 * c), two_half h, Int.mul_assoc]
  rw [e]

theorem stepsP_ch (n : Nat) (lf df : Nat → Int) (r c t tip p least most : Int) (h : tip % 2 = 0) : ∀ k, stepsP n lf df r (2 * c) t (tip / 2) p least most k = stepsP n lf df r c t tip p least most k
  | 0 => by simp only [stepsP, ofP_ch _ _ _ _ _ _ _ _ _ h]
  | k + 1 => by simp only [stepsP, ofP_ch _ _ _ _ _ _ _ _ _ h, stepsP_ch n lf df r c t tip p least most h k]

theorem br_ch (b : Bl) (f : Fl) (i D : Nat) (h : b.r4 i % 2 = 0) : b.ch.br f i D = b.br f i D := by
  show brP b.nl b.lf (b.r1 i) (2 * b.r2 i) (b.r3 i) (b.r4 i / 2) f.w f.s f.p D = _
  unfold Bl.br brP
  simp only [balP_ch _ _ _ _ _ _ _ _ _ _ _ h]

theorem tor_ch (b : Bl) (f : Fl) (i : Nat) (a : Int) (d : Nat) (h : b.r4 i % 2 = 0) : b.ch.tor f i a d = b.tor f i a d := by
  show torqueP b.nl b.lf b.df (b.r1 i) (2 * b.r2 i) (b.r3 i) (b.r4 i / 2) f.w f.s f.p a d = _
  unfold Bl.tor torqueP
  exact stepsP_ch _ _ _ _ _ _ _ _ _ _ h _

theorem err_tw {b : Bl} (h : b.err = 0) (ht : ∀ i, i < b.nr → b.r3 i ≠ -64) : b.tw.err = 0 := by
  have h : bladeS b.nl b.lf b.nd b.df b.nr b.r1 b.r2 b.r3 b.r4 = 0 := h
  show bladeS b.nl b.lf b.nd b.df b.nr b.r1 b.r2 (fun i => b.r3 i - 1) b.r4 = 0
  unfold bladeS at *
  rw [orE_zero, orE_zero, orE_zero, firstS_zero] at h ⊢
  refine ⟨h.1, h.2.1, h.2.2.1, fun i hi hj => ?_⟩
  have k := h.2.2.2 i hi hj
  unfold ringAt ringS at k ⊢
  simp only [orE_zero, withinS_zero] at k ⊢
  have := ht i (by omega)
  have k3 := k.1.2.2.1
  refine ⟨⟨k.1.1, k.1.2.1, ?_, k.1.2.2.2⟩, k.2⟩
  omega

theorem err_ch {b : Bl} (h : b.err = 0) (ht : ∀ i, i < b.nr → 2 * b.r2 i ≤ 100) : b.ch.err = 0 := by
  have h : bladeS b.nl b.lf b.nd b.df b.nr b.r1 b.r2 b.r3 b.r4 = 0 := h
  show bladeS b.nl b.lf b.nd b.df b.nr b.r1 (fun i => 2 * b.r2 i) b.r3 (fun i => b.r4 i / 2) = 0
  unfold bladeS at *
  rw [orE_zero, orE_zero, orE_zero, firstS_zero] at h ⊢
  refine ⟨h.1, h.2.1, h.2.2.1, fun i hi hj => ?_⟩
  have k := h.2.2.2 i hi hj
  unfold ringAt ringS at k ⊢
  simp only [orE_zero, withinS_zero] at k ⊢
  have := ht i (by omega)
  refine ⟨⟨k.1.1, ?_, k.1.2.2.1, ?_⟩, k.2⟩ <;> omega
end Go.Proofs.YtllmejkmogepjaaDoor.Ix

/-
  Rr1: contracts of the reference's functions for blades and flows.
-/
namespace Go.Proofs.YtllmejkmogepjaaDoor.Ix
open Go.Proofs
set_option maxRecDepth 100000
set_option linter.unusedVariables false
set_option linter.unusedSimpArgs false
variable {gl : Nat → IV}

theorem c_CheckRange (up : List Ces) (n lo hi : Int) : Cs gl n_nacelleref01_CheckRange up [.int .i64 n, .int .i64 lo, .int .i64 hi] (.int .i64 (withinS n lo hi)) up := by
  refine mk h_nacelleref01_CheckRange rfl rfl ?_
  conv => whnf
  split
  · rename_i h
    have h : decide (n < lo) = true := h
    conv => whnf
    simp [withinS, h]
  · rename_i h
    have h : decide (n < lo) = false := h
    conv => whnf
    split
    · rename_i h2
      have h2 : decide (n > hi) = true := h2
      conv => whnf
      simp [withinS, h, h2]
    · rename_i h2
      have h2 : decide (n > hi) = false := h2
      conv => whnf
      simp [withinS, h, h2]

theorem c_CheckAngle (up : List Ces) (n : Int) : Cs gl n_nacelleref03_CheckAngle up [.int .i64 n] (.int .i64 (withinS n (-64) 64)) up := by
  refine mk h_nacelleref03_CheckAngle rfl rfl ?_
  conv => whnf
  refine .mk _ _ _ _ _ (leL_refl _) (c_CheckRange _ _ _ _) rfl ?_
  conv => whnf
  exact ⟨rfl, rfl⟩

theorem c_rFirst (up : List Ces) (n : Nat) (hn : n ≤ 4611686018427387904) (f : Nat → Int) : Cs gl n_nacelleref01_First up [.lst none 1 n fun i => [.int .i64 (f i)]] (.int .i64 (firstS f n 0)) up := by
  refine mk h_nacelleref01_First rfl rfl ?_
  conv => whnf
  refine .mk (α := {i : Nat // i ≤ n ∧ firstS f n 0 = firstS f (n - i) i}) (fun i => ⟨[(3, .int .i64 i.1), (0, .lst none 1 n fun i => [.int .i64 (f i)])], [], up⟩) (fun i => n - i.1) ⟨0, Nat.zero_le _, rfl⟩ ⟨⟨leV_refl _, leV_refl _, trivial⟩, trivial, rfl, rfl⟩ ?_
  rintro ⟨i, hi, hf⟩
  conv => whnf
  split
  · rename_i hb
    have hlt : i < n := by
      have hb' : decide ((i : Int) < n) = true := hb
      simpa using hb'
    have hstep : firstS f (n - i) i = orE (f i) (firstS f (n - (i + 1)) (i + 1)) := by
      rw [show n - i = (n - (i + 1)) + 1 by omega]; rfl
    conv => whnf
    split
    rotate_left
    · rename_i h
      have h' : decide ((i : Int) < n) = false := h
      simp at h' <;> omega
    conv => whnf
    split
    · rename_i h2
      have h2 : (f i != 0) = true := h2
      conv => whnf
      split
      · conv => whnf
        refine ⟨?_, rfl⟩
        show IV.int .i64 (f i) = _
        rw [hf, hstep, orE_pos h2]
      · rename_i h3
        have h3 : decide ((i : Int) < n) = false := h3
        simp at h3; omega
    · rename_i h2
      have h2 : (f i != 0) = false := h2
      conv => whnf
      refine ⟨⟨i + 1, hlt, by rw [hf, hstep, orE_neg h2]⟩, ⟨⟨leV_int ?_, leV_refl _, trivial⟩, trivial, rfl, rfl⟩, ?_⟩
      · show w64 ((i : Int) + 1) = ((i + 1 : Nat) : Int)
        rw [w64, wrap_in] <;> omega
      · show n - (i + 1) < n - i
        omega
  · rename_i hb
    have : i = n := by
      have hb' : decide ((i : Int) < n) = false := hb
      simp at hb'; omega
    conv => whnf
    refine ⟨?_, rfl⟩
    rw [hf, this, Nat.sub_self]; rfl

theorem c_rf3 (up : List Ces) (f : Nat → List IV) (a b c : Int) (h0 : f 0 = [.int .i64 a]) (h1 : f 1 = [.int .i64 b]) (h2 : f 2 = [.int .i64 c]) : Cs gl n_nacelleref01_First up [.lst none 1 3 f] (.int .i64 (orE a (orE b c))) up := by
  have := c_rFirst (gl := gl) up 3 (by decide) fun i => [a, b, c].getD i 0
  have e : firstS (fun i => [a, b, c].getD i 0) 3 0 = orE a (orE b c) := by rw [← orE_right (orE a (orE b c)), orE_assoc, orE_assoc]; rfl
  rw [← e]
  refine Comp.le ?_ this
  refine ⟨⟨.inl rfl, rfl, rfl, fun i hi => ?_⟩, trivial⟩
  match i, hi with
  | 0, _ => exact h0
  | 1, _ => exact h1
  | 2, _ => exact h2
theorem c_rf4 (up : List Ces) (f : Nat → List IV) (a b c d : Int) (h0 : f 0 = [.int .i64 a]) (h1 : f 1 = [.int .i64 b]) (h2 : f 2 = [.int .i64 c]) (h3 : f 3 = [.int .i64 d]) : Cs gl n_nacelleref01_First up [.lst none 1 4 f] (.int .i64 (orE a (orE b (orE c d)))) up := by
  have := c_rFirst (gl := gl) up 4 (by decide) fun i => [a, b, c, d].getD i 0
  have e : firstS (fun i => [a, b, c, d].getD i 0) 4 0 = orE a (orE b (orE c d)) := by rw [← orE_right (orE a (orE b (orE c d))), orE_assoc, orE_assoc, orE_assoc]; rfl
  rw [← e]
  refine Comp.le ?_ this
  refine ⟨⟨.inl rfl, rfl, rfl, fun i hi => ?_⟩, trivial⟩
  match i, hi with
  | 0, _ => exact h0
  | 1, _ => exact h1
  | 2, _ => exact h2
  | 3, _ => exact h3

theorem c_rCheckFlow (up : List Ces) (w s p : Int) : Cs gl n_nacelleref03_CheckFlow up [flowI w s p] (.int .i64 (flowS w s p)) up := by
  refine mk h_nacelleref03_CheckFlow rfl rfl ?_
  conv => whnf
  refine .mk 11 (by kernel_rfl) ?_
  conv => whnf
  first | refine CALLQ.mk _ _ _ (leL_refl _) (c_CheckRange _ _ _ _) rfl ?_ | refine CALL0.mk _ _ _ _ _ (leL_refl _) (c_CheckRange _ _ _ _) rfl ?_
  conv => whnf
  first | refine CALLQ.mk _ _ _ (leL_refl _) (c_CheckRange _ _ _ _) rfl ?_ | refine CALL0.mk _ _ _ _ _ (leL_refl _) (c_CheckRange _ _ _ _) rfl ?_
  conv => whnf
  first | refine CALLQ.mk _ _ _ (leL_refl _) (c_CheckAngle _ _) rfl ?_ | refine CALL0.mk _ _ _ _ _ (leL_refl _) (c_CheckAngle _ _) rfl ?_
  conv => whnf
  first | refine CALLQ.mk _ _ _ (leL_refl _) (c_rf3 _ _ _ _ _ rfl rfl rfl) rfl ?_ | refine CALL0.mk _ _ _ _ _ (leL_refl _) (c_rf3 _ _ _ _ _ rfl rfl rfl) rfl ?_
  conv => whnf
  exact ⟨rfl, rfl⟩

theorem c_rCheckPolar (up : List Ces) (nl nd : Nat) (lf df : Nat → Int) : Cs gl n_nacelleref03_CheckPolar up [.agg [.lst none 1 nl fun i => [.int .i64 (lf i)], .lst none 1 nd fun i => [.int .i64 (df i)]]] (.int .i64 (polarS nl lf nd df)) up := by
  refine mk h_nacelleref03_CheckPolar rfl rfl ?_
  rw [polarS_eq]
  conv => whnf
  split
  · rename_i h
    have h : ((nl : Int) == 0) = true := h
    conv => whnf
    refine ⟨?_, rfl⟩
    rw [h]; rfl
  · rename_i h1
    have h1 : ((nl : Int) == 0) = false := h1
    rw [h1]
    conv => whnf
    split
    · rename_i h
      have h : decide ((nl : Int) > 32) = true := h
      conv => whnf
      refine ⟨?_, rfl⟩
      rw [h]; rfl
    · rename_i h2
      have h2 : decide ((nl : Int) > 32) = false := h2
      rw [h2]
      conv => whnf
      split
      · rename_i h
        have h : ((nd : Int) != nl) = true := h
        conv => whnf
        refine ⟨?_, rfl⟩
        rw [h]; rfl
      · rename_i h3
        have h3 : ((nd : Int) != nl) = false := h3
        rw [h3]
        have hk : orE (orE (bif false then 12 else 0) (orE (bif false then 5 else 0) (bif false then 2 else 0))) (orE (firstS (liftS lf) nl 0) (firstS (fun i => withinS (df i) 0 1000) nd 0)) = orE (firstS (liftS lf) nl 0) (firstS (fun i => withinS (df i) 0 1000) nd 0) := rfl
        rw [hk]
        clear hk
        have h3' : nd = nl := by simp at h3; omega
        subst h3'
        have h2' : nd ≤ 32 := by simp at h2; omega
        obtain ⟨R, hR⟩ : ∃ R, R = orE (firstS (liftS lf) nd 0) (firstS (fun i => withinS (df i) 0 1000) nd 0) := ⟨_, rfl⟩
        rw [← hR]
        conv => whnf
        refine .mk (α := {i : Nat // i ≤ nd ∧ R = orE (firstS (liftS lf) (nd - i) i) (firstS (fun i => withinS (df i) 0 1000) nd 0)}) (fun i => ⟨[(3, .int .i64 i.1), (1, .ptr 0 1 0)], [(1, [.lst none 1 nd fun i => [.int .i64 (lf i)], .lst none 1 nd fun i => [.int .i64 (df i)]])], up⟩) (fun i => nd - i.1) ⟨0, Nat.zero_le _, hR⟩ ⟨⟨leV_refl _, leV_refl _, trivial⟩, ⟨leL_refl _, trivial⟩, rfl, rfl⟩ ?_
        rintro ⟨i, hi, hf⟩
        conv => whnf
        split
        · rename_i hb
          have hlt : i < nd := by
            have hb' : decide ((i : Int) < nd) = true := hb
            simpa using hb'
          have hstep : firstS (liftS lf) (nd - i) i = orE (liftS lf i) (firstS (liftS lf) (nd - (i + 1)) (i + 1)) := by
            rw [show nd - i = (nd - (i + 1)) + 1 by omega]; rfl
          have hm : w64 ((i : Int) - 1) = (i : Int) - 1 := by rw [w64, wrap_in] <;> omega
          have hw : w64 ((i : Int) + 1) = ((i + 1 : Nat) : Int) := by rw [w64, wrap_in] <;> omega
          conv => whnf
          split
          rotate_left
          · rename_i h
            have h' : decide ((i : Int) < nd) = false := h
            simp at h' <;> omega
          conv => whnf
          refine .mk _ _ _ _ _ (leL_refl _) (c_CheckRange _ _ _ _) rfl ?_
          conv => whnf
          split
          · rename_i h
            have h : (withinS (lf i) 0 1000 != 0) = true := h
            have hl : liftS lf i = withinS (lf i) 0 1000 := orE_pos h
            conv => whnf
            refine ⟨?_, rfl⟩
            show IV.int .i64 (withinS (lf i) 0 1000) = _
            rw [hf, hstep, hl, orE_pos h, orE_pos h]
          · rename_i h
            have h : (withinS (lf i) 0 1000 != 0) = false := h
            have hl : liftS lf i = bif decide (lf i < lf (i - 1)) then 11 else 0 := orE_neg h
            conv => whnf
            refine .mk 16 (by kernel_rfl) ?_
            conv => whnf
            split
            · rename_i h0
              have h0 : decide ((i : Int) > 0) = true := h0
              have h0' : 0 < i := by simpa using h0
              conv => whnf
              split
              rotate_left
              · rename_i h
                have h' : decide ((i : Int) < nd) = false := h
                simp at h' <;> omega
              conv => whnf
              rw [show IntKind.i64.wrap ((i : Int) - 1) = ((i - 1 : Nat) : Int) by show w64 _ = _; rw [hm]; omega]
              split
              rotate_left
              · rename_i h
                have h' : decide (0 ≤ ((i - 1 : Nat) : Int)) = false := h
                simp at h' <;> omega
              conv => whnf
              split
              rotate_left
              · rename_i h
                have h' : decide (((i - 1 : Nat) : Int) < nd) = false := h
                simp at h' <;> omega
              conv => whnf
              split
              · rename_i g
                have g : decide (lf i < lf (i - 1)) = true := g
                rw [g] at hl
                conv => whnf
                refine ⟨?_, rfl⟩
                rw [hf, hstep, hl]; rfl
              · rename_i g
                have g : decide (lf i < lf (i - 1)) = false := g
                rw [g] at hl
                conv => whnf
                exact ⟨⟨i + 1, hlt, by rw [hf, hstep, hl]; rfl⟩, ⟨⟨leV_int hw, leV_refl _, trivial⟩, ⟨leL_refl _, trivial⟩, rfl, rfl⟩, (by show nd - (i + 1) < nd - i; omega)⟩
            · rename_i h0
              have h0 : decide ((i : Int) > 0) = false := h0
              have h0' : i = 0 := by simpa using h0
              have g : decide (lf i < lf (i - 1)) = false := by subst h0'; simp
              rw [g] at hl
              conv => whnf
              exact ⟨⟨i + 1, hlt, by rw [hf, hstep, hl]; rfl⟩, ⟨⟨leV_int hw, leV_refl _, trivial⟩, ⟨leL_refl _, trivial⟩, rfl, rfl⟩, (by show nd - (i + 1) < nd - i; omega)⟩
        · rename_i hb
          have : i = nd := by
            have hb' : decide ((i : Int) < nd) = false := hb
            simp at hb'; omega
          have hz : R = firstS (fun i => withinS (df i) 0 1000) nd 0 := by rw [hf, this, Nat.sub_self]; rfl
          conv => whnf
          refine .mk (α := {i : Nat // i ≤ nd ∧ R = firstS (fun i => withinS (df i) 0 1000) (nd - i) i}) (fun i => ⟨[(5, .int .i64 i.1), (1, .ptr 0 1 0)], [(1, [.lst none 1 nd fun i => [.int .i64 (lf i)], .lst none 1 nd fun i => [.int .i64 (df i)]])], up⟩) (fun i => nd - i.1) ⟨0, Nat.zero_le _, hz⟩ ⟨⟨leV_refl _, leV_refl _, trivial⟩, ⟨leL_refl _, trivial⟩, rfl, rfl⟩ ?_
          rintro ⟨j, hj, hg⟩
          conv => whnf
          split
          · rename_i hb
            have hlt : j < nd := by
              have hb' : decide ((j : Int) < nd) = true := hb
              simpa using hb'
            have hstep : firstS (fun i => withinS (df i) 0 1000) (nd - j) j = orE (withinS (df j) 0 1000) (firstS (fun i => withinS (df i) 0 1000) (nd - (j + 1)) (j + 1)) := by
              rw [show nd - j = (nd - (j + 1)) + 1 by omega]; rfl
            have hw : w64 ((j : Int) + 1) = ((j + 1 : Nat) : Int) := by rw [w64, wrap_in] <;> omega
            conv => whnf
            split
            rotate_left
            · rename_i h
              have h' : decide ((j : Int) < nd) = false := h
              simp at h' <;> omega
            conv => whnf
            refine .mk _ _ _ _ _ (leL_refl _) (c_CheckRange _ _ _ _) rfl ?_
            conv => whnf
            split
            · rename_i h
              have h : (withinS (df j) 0 1000 != 0) = true := h
              conv => whnf
              refine ⟨?_, rfl⟩
              show IV.int .i64 (withinS (df j) 0 1000) = _
              rw [hg, hstep, orE_pos h]
            · rename_i h
              have h : (withinS (df j) 0 1000 != 0) = false := h
              conv => whnf
              exact ⟨⟨j + 1, hlt, by rw [hg, hstep, orE_neg h]⟩, ⟨⟨leV_int hw, leV_refl _, trivial⟩, ⟨leL_refl _, trivial⟩, rfl, rfl⟩, (by show nd - (j + 1) < nd - j; omega)⟩
          · rename_i hb
            have : j = nd := by
              have hb' : decide ((j : Int) < nd) = false := hb
              simp at hb'; omega
            conv => whnf
            refine ⟨?_, rfl⟩
            rw [hg, this, Nat.sub_self]; rfl

theorem bladeS_eq3 (nl nd nr : Nat) (lf df r1 r2 r3 r4 : Nat → Int) : bladeS nl lf nd df nr r1 r2 r3 r4 =
    orE (polarS nl lf nd df) (orE (bif (nr : Int) == 0 then 12 else 0) (orE (bif decide ((nr : Int) > 16) then 5 else 0) (firstS (ringAt r1 r2 r3 r4) nr 0))) := rfl

theorem c_rCheckBlade (up : List Ces) (b : Bl) : Cs gl n_nacelleref03_CheckBlade up [b.iv] (.int .i64 b.err) up := by
  obtain ⟨nl, nd, nr, lf, df, r1, r2, r3, r4⟩ := b
  refine mk h_nacelleref03_CheckBlade rfl rfl ?_
  show ibody _ _ _ _ _ fun r up' => r = .int .i64 (bladeS nl lf nd df nr r1 r2 r3 r4) ∧ _
  rw [bladeS_eq3]
  conv => whnf
  refine .mk _ _ _ _ _ (leL_refl _) (c_rCheckPolar _ _ _ _ _) rfl ?_
  conv => whnf
  split
  · rename_i h
    have h : (polarS nl lf nd df != 0) = true := h
    conv => whnf
    refine ⟨?_, rfl⟩
    rw [orE_pos h]
  · rename_i h
    have h : (polarS nl lf nd df != 0) = false := h
    rw [orE_neg h]
    clear h
    conv => whnf
    split
    · rename_i h
      have h : ((nr : Int) == 0) = true := h
      conv => whnf
      refine ⟨?_, rfl⟩
      rw [h]; rfl
    · rename_i h1
      have h1 : ((nr : Int) == 0) = false := h1
      rw [h1]
      conv => whnf
      split
      · rename_i h
        have h : decide ((nr : Int) > 16) = true := h
        conv => whnf
        refine ⟨?_, rfl⟩
        rw [h]; rfl
      · rename_i h2
        have h2 : decide ((nr : Int) > 16) = false := h2
        rw [h2]
        have h2' : nr ≤ 16 := by simp at h2; omega
        obtain ⟨R, hR⟩ : ∃ R, R = firstS (ringAt r1 r2 r3 r4) nr 0 := ⟨_, rfl⟩
        rw [show orE (bif false then 12 else 0) (orE (bif false then 5 else 0) (firstS (ringAt r1 r2 r3 r4) nr 0)) = R from hR.symm]
        conv => whnf
        refine .mk (α := {i : Nat // i ≤ nr ∧ R = firstS (ringAt r1 r2 r3 r4) (nr - i) i}) (fun i => ⟨[(4, .int .i64 i.1), (1, .ptr 0 1 0)], [(1, [.lst none 1 nl fun i => [.int .i64 (lf i)], .lst none 1 nd fun i => [.int .i64 (df i)], .lst none 4 nr fun i => [.int .i64 (r1 i), .int .i64 (r2 i), .int .i64 (r3 i), .int .i64 (r4 i)]])], up⟩) (fun i => nr - i.1) ⟨0, Nat.zero_le _, hR⟩ ⟨⟨leV_refl _, leV_refl _, trivial⟩, ⟨leL_refl _, trivial⟩, rfl, rfl⟩ ?_
        rintro ⟨i, hi, hf⟩
        conv => whnf
        split
        · rename_i hb
          have hlt : i < nr := by
            have hb' : decide ((i : Int) < nr) = true := hb
            simpa using hb'
          have hstep : firstS (ringAt r1 r2 r3 r4) (nr - i) i = orE (ringAt r1 r2 r3 r4 i) (firstS (ringAt r1 r2 r3 r4) (nr - (i + 1)) (i + 1)) := by
            rw [show nr - i = (nr - (i + 1)) + 1 by omega]; rfl
          have hm : w64 ((i : Int) - 1) = (i : Int) - 1 := by rw [w64, wrap_in] <;> omega
          have hw : w64 ((i : Int) + 1) = ((i + 1 : Nat) : Int) := by rw [w64, wrap_in] <;> omega
          conv => whnf
          split
          rotate_left
          · rename_i h
            have h' : decide ((i : Int) < nr) = false := h
            simp at h' <;> omega
          conv => whnf
          refine .mk 14 (by kernel_rfl) ?_
          conv => whnf
          first | refine CALLQ.mk _ _ _ (leL_refl _) (c_CheckRange _ _ _ _) rfl ?_ | refine CALL0.mk _ _ _ _ _ (leL_refl _) (c_CheckRange _ _ _ _) rfl ?_
          conv => whnf
          first | refine CALLQ.mk _ _ _ (leL_refl _) (c_CheckRange _ _ _ _) rfl ?_ | refine CALL0.mk _ _ _ _ _ (leL_refl _) (c_CheckRange _ _ _ _) rfl ?_
          conv => whnf
          first | refine CALLQ.mk _ _ _ (leL_refl _) (c_CheckRange _ _ _ _) rfl ?_ | refine CALL0.mk _ _ _ _ _ (leL_refl _) (c_CheckRange _ _ _ _) rfl ?_
          conv => whnf
          first | refine CALLQ.mk _ _ _ (leL_refl _) (c_CheckRange _ _ _ _) rfl ?_ | refine CALL0.mk _ _ _ _ _ (leL_refl _) (c_CheckRange _ _ _ _) rfl ?_
          conv => whnf
          first | refine CALLQ.mk _ _ _ (leL_refl _) (c_rf4 _ _ _ _ _ _ rfl rfl rfl rfl) rfl ?_ | refine CALL0.mk _ _ _ _ _ (leL_refl _) (c_rf4 _ _ _ _ _ _ rfl rfl rfl rfl) rfl ?_
          conv => whnf
          split
          · rename_i h
            have h : (ringS (r1 i) (r2 i) (r3 i) (r4 i) != 0) = true := h
            have hl : ringAt r1 r2 r3 r4 i = ringS (r1 i) (r2 i) (r3 i) (r4 i) := orE_pos h
            conv => whnf
            refine ⟨?_, rfl⟩
            show IV.int .i64 (ringS (r1 i) (r2 i) (r3 i) (r4 i)) = _
            rw [hf, hstep, hl, orE_pos h]
          · rename_i h
            have h : (ringS (r1 i) (r2 i) (r3 i) (r4 i) != 0) = false := h
            have hl : ringAt r1 r2 r3 r4 i = bif decide (0 < i) && decide (r1 i ≤ r1 (i - 1)) then 11 else 0 := orE_neg h
            conv => whnf
            refine .mk 14 (by kernel_rfl) ?_
            conv => whnf
            split
            · rename_i h0
              have h0 : decide ((i : Int) > 0) = true := h0
              have h0' : 0 < i := by simpa using h0
              rw [decide_eq_true h0', Bool.true_and] at hl
              conv => whnf
              rw [show IntKind.i64.wrap ((i : Int) - 1) = ((i - 1 : Nat) : Int) by show w64 _ = _; rw [hm]; omega]
              split
              rotate_left
              · rename_i h
                have h' : decide (0 ≤ ((i - 1 : Nat) : Int)) = false := h
                simp at h' <;> omega
              conv => whnf
              split
              rotate_left
              · rename_i h
                have h' : decide (((i - 1 : Nat) : Int) < nr) = false := h
                simp at h' <;> omega
              conv => whnf
              split
              · rename_i g
                have g : decide (r1 i ≤ r1 (i - 1)) = true := g
                rw [g] at hl
                conv => whnf
                refine ⟨?_, rfl⟩
                rw [hf, hstep, hl]; rfl
              · rename_i g
                have g : decide (r1 i ≤ r1 (i - 1)) = false := g
                rw [g] at hl
                conv => whnf
                exact ⟨⟨i + 1, hlt, by rw [hf, hstep, hl]; rfl⟩, ⟨⟨leV_int hw, leV_refl _, trivial⟩, ⟨leL_refl _, trivial⟩, rfl, rfl⟩, (by show nr - (i + 1) < nr - i; omega)⟩
            · rename_i h0
              have h0 : decide ((i : Int) > 0) = false := h0
              have h0' : ¬ 0 < i := by simpa using h0
              rw [decide_eq_false h0', Bool.false_and] at hl
              conv => whnf
              exact ⟨⟨i + 1, hlt, by rw [hf, hstep, hl]; rfl⟩, ⟨⟨leV_int hw, leV_refl _, trivial⟩, ⟨leL_refl _, trivial⟩, rfl, rfl⟩, (by show nr - (i + 1) < nr - i; omega)⟩
        · rename_i hb
          have : i = nr := by
            have hb' : decide ((i : Int) < nr) = false := hb
            simp at hb'; omega
          conv => whnf
          refine ⟨?_, rfl⟩
          rw [hf, this, Nat.sub_self]; rfl

def Bl.short (b : Bl) : Bool :=
  (decide ((b.nl : Int) ≤ 5) || (b.nl : Int) == 33) && ((decide ((b.nd : Int) ≤ 5) || (b.nd : Int) == 33) && (decide ((b.nr : Int) ≤ 3) || (b.nr : Int) == 17))

theorem c_Short (up : List Ces) (b : Bl) : Cs gl n_nacelleref03_Short up [b.iv] (.bool b.short) up := by
  refine mk h_nacelleref03_Short rfl rfl ?_
  conv => whnf
  repeat' (split <;> (conv => whnf))
  all_goals (refine ⟨?_, rfl⟩; simp_all [Bl.short] <;> omega)

/-- Are the inflows of a valid blade few? -/
def lightS (b : Bl) (f : Fl) : Bool := decide (w64 ((w64 (1024 * f.w)).tdiv (w64 (f.s * b.r1 0))) ≤ 4096)

theorem c_Light (up : List Ces) (b : Bl) (f : Fl) (hb : b.err = 0) (hf : f.err = 0) : Cs gl n_nacelleref03_Light up [b.iv, f.iv] (.bool (lightS b f)) up := by
  refine mk h_nacelleref03_Light rfl rfl ?_
  obtain ⟨_, hn1, hn2, ok⟩ := Bl.good hb hf
  have o := ok 0 (by omega)
  have hw := o.w
  have hs := o.s
  have hr := o.r
  have b1 := mulB (x := f.s) (y := b.r1 0) (A := 1000) (B := 200) (by omega) (by omega) (by omega) (by omega)
  have b2 := Int.mul_pos (show 0 < f.s by omega) (show 0 < b.r1 0 by omega)
  have e : w64 (f.s * b.r1 0) = f.s * b.r1 0 := by rw [w64, wrap_in] <;> omega
  conv => whnf
  refine .mk 13 (by kernel_rfl) ?_
  conv => whnf
  split
  rotate_left
  · rename_i h
    have h' : decide ((0 : Int) < b.nr) = false := h
    simp at h' <;> omega
  conv => whnf
  split
  · conv => whnf
    exact ⟨rfl, rfl⟩
  · rename_i h
    have h' : (w64 (f.s * b.r1 0) != 0) = false := h
    rw [e] at h'
    simp at h'
    omega
end Go.Proofs.YtllmejkmogepjaaDoor.Ix

/-
  Lw1: contracts of the laws' helpers: number, pair, span, blade, light.
-/
namespace Go.Proofs.YtllmejkmogepjaaDoor.Ix
open Go.Proofs
set_option maxRecDepth 100000
set_option linter.unusedVariables false
set_option linter.unusedSimpArgs false
variable {gl : Nat → IV}

/-- A number, if there is no error. -/
def zE (e v : Int) : Int := bif e != 0 then 0 else v
theorem zE_pos {e v : Int} (h : (e != 0) = true) : zE e v = 0 := by unfold zE; rw [h]; rfl
theorem zE_neg {e v : Int} (h : (e != 0) = false) : zE e v = v := by unfold zE; rw [h]; rfl
theorem zE_0 (v : Int) : zE 0 v = v := rfl
theorem zE_ne {e v : Int} (h : e ≠ 0) : zE e v = 0 := zE_pos (by simpa using h)
theorem ne0 {e : Int} (h : (e != 0) = false) : e = 0 := by simpa using h

theorem tup_u2 (e x y : Int) : (bif e != 0 then IV.tup [.agg [.int .i64 0, .int .i64 0], .int .i64 e] else .tup [.agg [.int .i64 x, .int .i64 y], .int .i64 0]) = .tup [.agg [.int .i64 (zE e x), .int .i64 (zE e y)], .int .i64 e] := by
  cases h : (e != 0) with
  | true => rw [zE_pos h, zE_pos h]; rfl
  | false => rw [zE_neg h, zE_neg h, ne0 h]; rfl
theorem tup_u1 (e x : Int) : (bif e != 0 then IV.tup [.int .i64 0, .int .i64 e] else .tup [.int .i64 x, .int .i64 0]) = .tup [.int .i64 (zE e x), .int .i64 e] := by
  cases h : (e != 0) with
  | true => rw [zE_pos h]; rfl
  | false => rw [zE_neg h, ne0 h]; rfl

theorem c_rf2 (up : List Ces) (f : Nat → List IV) (a b : Int) (h0 : f 0 = [.int .i64 a]) (h1 : f 1 = [.int .i64 b]) : Cs gl n_nacelleref01_First up [.lst none 1 2 f] (.int .i64 (orE a b)) up := by
  have := c_rFirst (gl := gl) up 2 (by decide) fun i => [a, b].getD i 0
  have e : firstS (fun i => [a, b].getD i 0) 2 0 = orE a b := by rw [← orE_right (orE a b), orE_assoc]; rfl
  rw [← e]
  refine Comp.le ?_ this
  refine ⟨⟨.inl rfl, rfl, rfl, fun i hi => ?_⟩, trivial⟩
  match i, hi with
  | 0, _ => exact h0
  | 1, _ => exact h1

theorem c_number (up : List Ces) (x e bad want : Int) (h : e = bad) (h1 : bad ≠ 0 → x = 0) (h2 : bad = 0 → x = want) :
    Cs gl n_nacellelaw03_number up [.int .i64 x, .int .i64 e, .int .i64 bad, .int .i64 want] (.bool true) up := by
  refine mk h_nacellelaw03_number rfl rfl ?_
  subst h
  conv => whnf
  repeat' (split <;> (conv => whnf))
  all_goals (refine ⟨?_, rfl⟩; simp_all)

theorem c_pair (up : List Ces) (x y e bad a b : Int) (h : e = bad) (h1 : bad ≠ 0 → x = 0 ∧ y = 0) (h2 : bad = 0 → x = a ∧ y = b) :
    Cs gl n_nacellelaw03_pair up [.agg [.int .i64 x, .int .i64 y], .int .i64 e, .int .i64 bad, .agg [.int .i64 a, .int .i64 b]] (.bool true) up := by
  refine mk h_nacellelaw03_pair rfl rfl ?_
  subst h
  conv => whnf
  repeat' (split <;> (conv => whnf))
  all_goals (refine ⟨?_, rfl⟩; simp_all)

/-- A blade's cells, the lists its own. -/
abbrev bladeO (b : Bl) (x y z : Nat) : IV :=
  .agg [.lst (some x) 1 b.nl fun i => [.int .i64 (b.lf i)], .lst (some y) 1 b.nd fun i => [.int .i64 (b.df i)], .lst (some z) 4 b.nr fun i => [.int .i64 (b.r1 i), .int .i64 (b.r2 i), .int .i64 (b.r3 i), .int .i64 (b.r4 i)]]

theorem c_blade (up : List Ces) (b : Bl) (hl : b.nl ≤ 1000000) (hd : b.nd ≤ 1000000) (hr : b.nr ≤ 1000000) : Cs gl n_nacellelaw03_blade up [b.iv] (bladeO b 10 15 29) up := by
  refine mk h_nacellelaw03_blade rfl rfl ?_
  conv => whnf
  refine .mk 14 (by kernel_rfl) ?_
  conv => whnf
  split
  rotate_left
  · rename_i h
    have h' : decide (b.nl ≤ 1073741824) = false := h
    simp at h' <;> omega
  conv => whnf
  split
  rotate_left
  · rename_i h
    have h' : decide (b.nd ≤ 1073741824) = false := h
    simp at h' <;> omega
  conv => whnf
  let R : Nat → List IV := fun i => [.int .i64 (b.r1 i), .int .i64 (b.r2 i), .int .i64 (b.r3 i), .int .i64 (b.r4 i)]
  refine .mk (α := {k : Nat // k ≤ b.nr}) (fun k => ⟨[(21, .int .i64 k.1), (20, .int .i64 b.nr), (19, .lst none 4 b.nr R), (2, .ptr 0 2 0), (3, .ptr 0 3 0)],
    [(3, [.lst (some 10) 1 b.nl fun i => [.int .i64 (b.lf i)], .lst (some 15) 1 b.nd fun i => [.int .i64 (b.df i)], .lst (some 29) 4 k.1 R]), (2, [.nilS, .nilS, .nilS])], up⟩) (fun k => b.nr - k.1) ⟨0, Nat.zero_le _⟩ ⟨?_, ?_, rfl, rfl⟩ ?_
  · exact ⟨leV_refl _, leV_refl _, leV_refl _, leV_refl _, leV_refl _, trivial⟩
  · exact ⟨⟨leV_refl _, leV_refl _, rfl, trivial⟩, leL_refl _, trivial⟩
  · rintro ⟨k, hk⟩
    have hw : w64 ((k : Int) + 1) = ((k + 1 : Nat) : Int) := by rw [w64, wrap_in] <;> omega
    conv => whnf
    split
    · rename_i hb
      have hlt : k < b.nr := by
        have hb' : decide ((k : Int) < b.nr) = true := hb
        simpa using hb'
      conv => whnf
      split
      rotate_left
      · rename_i h
        have h' : decide ((k : Int) < b.nr) = false := h
        simp at h' <;> omega
      conv => whnf
      split
      rotate_left
      · rename_i h
        have h' : decide (k + 1 ≤ 1073741824) = false := h
        simp at h' <;> omega
      conv => whnf
      refine ⟨⟨k + 1, hlt⟩, ⟨⟨leV_int hw, leV_refl _, leV_refl _, leV_refl _, leV_refl _, trivial⟩, ⟨⟨leV_refl _, leV_refl _, ⟨.inr rfl, rfl, rfl, fun j hj => ?_⟩, trivial⟩, leL_refl _, trivial⟩, rfl, rfl⟩, (by show b.nr - (k + 1) < b.nr - k; omega)⟩
      show (if j < k then R j else litF 4 (R k) (j - k)) = R j
      split
      · rfl
      · have : j = k := by have : j < k + 1 := hj; omega
        subst this
        rw [Nat.sub_self]
        rfl
    · rename_i hb
      have : k = b.nr := by
        have hb' : decide ((k : Int) < b.nr) = false := hb
        simp at hb'; omega
      subst this
      conv => whnf
      exact ⟨rfl, rfl⟩
end Go.Proofs.YtllmejkmogepjaaDoor.Ix

/-
  Rr2: contracts of the reference's functions: powers, inductions, rings, inflows, classes, balances.
-/
namespace Go.Proofs.YtllmejkmogepjaaDoor.Ix
open Go.Proofs
set_option maxRecDepth 100000
set_option linter.unusedVariables false
set_option linter.unusedSimpArgs false
variable {gl : Nat → IV}

theorem c_rfl2 (up : List Ces) (a b : Int) : Cs gl n_nacelleref01_First up [.lst none 1 2 (litF 1 [.int .i64 a, .int .i64 b])] (.int .i64 (orE a b)) up := c_rf2 up _ a b rfl rfl
theorem c_rfl3 (up : List Ces) (a b c : Int) : Cs gl n_nacelleref01_First up [.lst none 1 3 (litF 1 [.int .i64 a, .int .i64 b, .int .i64 c])] (.int .i64 (orE a (orE b c))) up := c_rf3 up _ a b c rfl rfl rfl
theorem c_rfl4 (up : List Ces) (a b c d : Int) : Cs gl n_nacelleref01_First up [.lst none 1 4 (litF 1 [.int .i64 a, .int .i64 b, .int .i64 c, .int .i64 d])] (.int .i64 (orE a (orE b (orE c d)))) up := c_rf4 up _ a b c d rfl rfl rfl rfl

theorem two_pow_le {d k : Nat} (h : d ≤ k) : (2 : Int) ^ d ≤ 2 ^ k := by
  have e : (2 : Int) ^ k = 2 ^ (k - d) * 2 ^ d := by rw [← Int.pow_add]; congr 1; omega
  rw [e]
  have h1 := two_pos d
  have h2 := two_pos (k - d)
  have := Int.mul_le_mul_of_nonneg_right (show (1 : Int) ≤ 2 ^ (k - d) by omega) (Int.le_of_lt h1)
  omega

theorem c_power (up : List Ces) (n : Nat) (hn : n ≤ 40) : Cs gl n_nacelleref03_power up [.int .i64 n] (.int .i64 (2 ^ n)) up := by
  refine mk h_nacelleref03_power rfl rfl ?_
  have h40 : (2 : Int) ^ 40 = 1099511627776 := by decide
  conv => whnf
  refine .mk (α := {k : Nat // k ≤ n}) (fun k => ⟨[(4, .int .i64 k.1), (3, .int .i64 (2 ^ k.1)), (0, .int .i64 n)], [], up⟩) (fun k => n - k.1) ⟨0, Nat.zero_le _⟩ ⟨⟨leV_refl _, leV_refl _, leV_refl _, trivial⟩, trivial, rfl, rfl⟩ ?_
  rintro ⟨k, hk⟩
  conv => whnf
  split
  · rename_i h
    have h : decide ((k : Int) < n) = true := h
    have hlt : k < n := by simp at h; omega
    have h1 := two_pow_le (d := k) (k := 40) (by omega)
    have h2 := two_pos k
    have e1 : w64 (2 * 2 ^ k) = 2 ^ (k + 1) := by rw [Int.pow_succ, w64, wrap_in] <;> omega
    have e2 : w64 ((k : Int) + 1) = ((k + 1 : Nat) : Int) := by rw [w64, wrap_in] <;> omega
    conv => whnf
    exact ⟨⟨k + 1, hlt⟩, ⟨⟨leV_int e2, leV_int e1, leV_refl _, trivial⟩, trivial, rfl, rfl⟩, (by show n - (k + 1) < n - k; omega)⟩
  · rename_i h
    have h : decide ((k : Int) < n) = false := h
    have : k = n := by simp at h; omega
    subst this
    conv => whnf
    exact ⟨rfl, rfl⟩

theorem c_rCheckDepth (up : List Ces) (d : Int) : Cs gl n_nacelleref03_CheckDepth up [.int .i64 d] (.int .i64 (withinS d 1 12)) up := by
  refine mk h_nacelleref03_CheckDepth rfl rfl ?_
  conv => whnf
  refine .mk _ _ _ _ _ (leL_refl _) (c_CheckRange _ _ _ _) rfl ?_
  conv => whnf
  exact ⟨rfl, rfl⟩

theorem c_rCheckInduction (up : List Ces) (a d : Int) : Cs gl n_nacelleref03_CheckInduction up [.agg [.int .i64 a, .int .i64 d]] (.int .i64 (indErr a d)) up := by
  refine mk h_nacelleref03_CheckInduction rfl rfl ?_
  conv => whnf
  refine .mk _ _ _ _ _ (leL_refl _) (c_rCheckDepth _ _) rfl ?_
  conv => whnf
  split
  · rename_i h
    have h' : (withinS d 1 12 != 0) = true := h
    conv => whnf
    refine ⟨?_, rfl⟩
    unfold indErr
    rw [orE_pos h']
  · rename_i h
    have h' : (withinS d 1 12 != 0) = false := h
    have h0 : withinS d 1 12 = 0 := by simpa using h'
    rw [withinS_zero] at h0
    have e : w64 (d - 1) = ((d - 1).toNat : Int) := by rw [w64, wrap_in] <;> omega
    have hp := fun up => c_power (gl := gl) up (d - 1).toNat (by omega)
    rw [← e] at hp
    conv => whnf
    first
      | refine .mk 0 (by decide +kernel) ?_
      | refine .mk 1 (by decide +kernel) ?_
      | refine .mk 2 (by decide +kernel) ?_
      | refine .mk 3 (by decide +kernel) ?_
      | refine .mk 4 (by decide +kernel) ?_
      | refine .mk 5 (by decide +kernel) ?_
      | refine .mk 6 (by decide +kernel) ?_
      | refine .mk 7 (by decide +kernel) ?_
      | refine .mk 8 (by decide +kernel) ?_
      | refine .mk 9 (by decide +kernel) ?_
      | refine .mk 10 (by decide +kernel) ?_
      | refine .mk 11 (by decide +kernel) ?_
      | refine .mk 12 (by decide +kernel) ?_
      | refine .mk 13 (by decide +kernel) ?_
      | refine .mk 14 (by decide +kernel) ?_
      | refine .mk 15 (by decide +kernel) ?_
      | refine .mk 16 (by decide +kernel) ?_
      | refine .mk 17 (by decide +kernel) ?_
      | refine .mk 18 (by decide +kernel) ?_
      | refine .mk 19 (by decide +kernel) ?_
      | refine .mk 20 (by decide +kernel) ?_
      | refine .mk 21 (by decide +kernel) ?_
      | refine .mk 22 (by decide +kernel) ?_
      | refine .mk 23 (by decide +kernel) ?_
      | refine .mk 24 (by decide +kernel) ?_
      | refine .mk 25 (by decide +kernel) ?_
      | refine .mk 26 (by decide +kernel) ?_
      | refine .mk 27 (by decide +kernel) ?_
      | refine .mk 28 (by decide +kernel) ?_
      | refine .mk 29 (by decide +kernel) ?_
      | refine .mk 30 (by decide +kernel) ?_
      | refine .mk 31 (by decide +kernel) ?_
      | refine .mk 32 (by decide +kernel) ?_
      | refine .mk 33 (by decide +kernel) ?_
      | refine .mk 34 (by decide +kernel) ?_
      | refine .mk 35 (by decide +kernel) ?_
      | refine .mk 36 (by decide +kernel) ?_
      | refine .mk 37 (by decide +kernel) ?_
      | refine .mk 38 (by decide +kernel) ?_
      | refine .mk 39 (by decide +kernel) ?_
      | refine .mk 40 (by decide +kernel) ?_
      | refine .mk 41 (by decide +kernel) ?_
    conv => whnf
    first | refine CALLQ.mk _ _ _ (leL_refl _) (hp _) rfl ?_ | refine CALL0.mk _ _ _ _ _ (leL_refl _) (hp _) rfl ?_
    conv => whnf
    first | refine CALLQ.mk _ _ _ (leL_refl _) (c_CheckRange _ _ _ _) rfl ?_ | refine CALL0.mk _ _ _ _ _ (leL_refl _) (c_CheckRange _ _ _ _) rfl ?_
    conv => whnf
    refine ⟨?_, rfl⟩
    unfold indErr
    rw [orE_neg h']

theorem c_rCheckRing (up : List Ces) (b : Bl) (f : Fl) (ring : Int) : Cs gl n_nacelleref03_CheckRing up [b.iv, f.iv, .int .i64 ring] (.int .i64 (ringErr b f ring)) up := by
  refine mk h_nacelleref03_CheckRing rfl rfl ?_
  conv => whnf
  first
    | refine .mk 0 (by decide +kernel) ?_
    | refine .mk 1 (by decide +kernel) ?_
    | refine .mk 2 (by decide +kernel) ?_
    | refine .mk 3 (by decide +kernel) ?_
    | refine .mk 4 (by decide +kernel) ?_
    | refine .mk 5 (by decide +kernel) ?_
    | refine .mk 6 (by decide +kernel) ?_
    | refine .mk 7 (by decide +kernel) ?_
    | refine .mk 8 (by decide +kernel) ?_
    | refine .mk 9 (by decide +kernel) ?_
    | refine .mk 10 (by decide +kernel) ?_
    | refine .mk 11 (by decide +kernel) ?_
    | refine .mk 12 (by decide +kernel) ?_
    | refine .mk 13 (by decide +kernel) ?_
    | refine .mk 14 (by decide +kernel) ?_
    | refine .mk 15 (by decide +kernel) ?_
    | refine .mk 16 (by decide +kernel) ?_
    | refine .mk 17 (by decide +kernel) ?_
    | refine .mk 18 (by decide +kernel) ?_
    | refine .mk 19 (by decide +kernel) ?_
    | refine .mk 20 (by decide +kernel) ?_
    | refine .mk 21 (by decide +kernel) ?_
    | refine .mk 22 (by decide +kernel) ?_
    | refine .mk 23 (by decide +kernel) ?_
    | refine .mk 24 (by decide +kernel) ?_
    | refine .mk 25 (by decide +kernel) ?_
    | refine .mk 26 (by decide +kernel) ?_
    | refine .mk 27 (by decide +kernel) ?_
    | refine .mk 28 (by decide +kernel) ?_
    | refine .mk 29 (by decide +kernel) ?_
    | refine .mk 30 (by decide +kernel) ?_
    | refine .mk 31 (by decide +kernel) ?_
    | refine .mk 32 (by decide +kernel) ?_
    | refine .mk 33 (by decide +kernel) ?_
    | refine .mk 34 (by decide +kernel) ?_
    | refine .mk 35 (by decide +kernel) ?_
    | refine .mk 36 (by decide +kernel) ?_
    | refine .mk 37 (by decide +kernel) ?_
    | refine .mk 38 (by decide +kernel) ?_
    | refine .mk 39 (by decide +kernel) ?_
    | refine .mk 40 (by decide +kernel) ?_
    | refine .mk 41 (by decide +kernel) ?_
  conv => whnf
  first | refine CALLQ.mk _ _ _ (leL_refl _) (c_rCheckBlade _ b) rfl ?_ | refine CALL0.mk _ _ _ _ _ (leL_refl _) (c_rCheckBlade _ b) rfl ?_
  conv => whnf
  first | refine CALLQ.mk _ _ _ (leL_refl _) (c_rCheckFlow _ _ _ _) rfl ?_ | refine CALL0.mk _ _ _ _ _ (leL_refl _) (c_rCheckFlow _ _ _ _) rfl ?_
  conv => whnf
  first | refine CALLQ.mk _ _ _ (leL_refl _) (c_rf2 _ _ _ _ rfl rfl) rfl ?_ | refine CALL0.mk _ _ _ _ _ (leL_refl _) (c_rf2 _ _ _ _ rfl rfl) rfl ?_
  conv => whnf
  split
  · rename_i h
    have h' : (orE b.err f.err != 0) = true := h
    conv => whnf
    refine ⟨?_, rfl⟩
    unfold ringErr
    rw [← orE_assoc, orE_pos h']; rfl
  · rename_i h
    have h' : (orE b.err f.err != 0) = false := h
    conv => whnf
    split
    · rename_i h2
      have h2 : decide (ring < 0) = true := h2
      conv => whnf
      refine ⟨?_, rfl⟩
      unfold ringErr
      rw [← orE_assoc, orE_neg h', h2]; rfl
    · rename_i h2
      have h2 : decide (ring < 0) = false := h2
      conv => whnf
      split
      · rename_i h3
        have h3 : decide (ring ≥ b.nr) = true := h3
        conv => whnf
        refine ⟨?_, rfl⟩
        unfold ringErr
        rw [← orE_assoc, orE_neg h', h2, h3]; rfl
      · rename_i h3
        have h3 : decide (ring ≥ b.nr) = false := h3
        conv => whnf
        refine ⟨?_, rfl⟩
        unfold ringErr
        rw [← orE_assoc, orE_neg h', h2, h3]; rfl

abbrev ringI (b : Bl) (i : Nat) : IV := .agg [.int .i64 (b.r1 i), .int .i64 (b.r2 i), .int .i64 (b.r3 i), .int .i64 (b.r4 i)]
abbrev polarI (b : Bl) : IV := .agg [.lst none 1 b.nl fun i => [.int .i64 (b.lf i)], .lst none 1 b.nd fun i => [.int .i64 (b.df i)]]

theorem c_rInflow (up : List Ces) (b : Bl) (f : Fl) (i : Nat) (h : b.ok f i) (a : Int) (d : Nat) (hd : d ≤ 12) (h0 : 0 ≤ a) (h1 : a ≤ 2 ^ d) :
    Cs gl n_nacelleref03_Inflow up [ringI b i, f.iv, .agg [.int .i64 a, .int .i64 d]] (.int .i64 (b.infl f i a d)) up := by
  refine mk h_nacelleref03_Inflow rfl rfl ?_
  have e := inflowW_eq h hd h0 h1
  have e2 := denW_eq h hd
  have e3 := den_pos h d
  unfold inflowW at e
  rw [e2] at e
  unfold denW at e2
  rw [wholeW_eq hd] at e e2
  conv => whnf
  refine .mk _ _ _ _ _ (leL_refl _) (c_power _ d (by omega)) rfl ?_
  conv => whnf
  split
  · conv => whnf
    refine ⟨?_, rfl⟩
    show IV.int .i64 (w64 ((w64 (w64 (1024 * w64 (2 ^ d - a)) * f.w)).tdiv (w64 (w64 (2 ^ d * f.s) * b.r1 i)))) = _
    rw [e2, e]; rfl
  · rename_i hz
    have hz : (w64 (w64 (2 ^ d * f.s) * b.r1 i) != 0) = false := hz
    rw [e2] at hz
    simp at hz
    omega

theorem c_rClass (up : List Ces) (b : Bl) (f : Fl) (i : Nat) (h : b.ok f i) (x : Int) (h0 : -100000 ≤ x) (h1 : x ≤ 999999999) :
    Cs gl n_nacelleref03_Class up [polarI b, ringI b i, f.iv, .int .i64 x] (.int .i64 (clsP b.nl (b.r3 i) f.p x)) up := by
  refine mk h_nacelleref03_Class rfl rfl ?_
  have k1 := h.t
  have k2 := h.p
  have k3 := h.n0
  have k4 := h.n1
  have e1 : w64 (x - b.r3 i) = x - b.r3 i := by rw [w64, wrap_in] <;> omega
  have e2 : w64 (x - b.r3 i - f.p) = x - b.r3 i - f.p := by rw [w64, wrap_in] <;> omega
  have e3 : w64 ((b.nl : Int) - 1) = b.nl - 1 := by rw [w64, wrap_in] <;> omega
  conv => whnf
  refine ⟨?_, rfl⟩
  show IV.int .i64 (minW (maxW (w64 (w64 (x - b.r3 i) - f.p)) 0) (w64 (b.nl - 1))) = _
  rw [e1, e2, e3, minW_eq, maxW_eq]
  unfold clsP
  congr 1
  omega

theorem c_rBalance (up : List Ces) (b : Bl) (f : Fl) (i : Nat) (h : b.ok f i) (a : Int) (d : Nat) (hd : d ≤ 12) (h0 : 0 ≤ a) (h1 : a ≤ 2 ^ d) :
    Cs gl n_nacelleref03_Balance up [polarI b, ringI b i, f.iv, .agg [.int .i64 a, .int .i64 d]] (.int .i64 (b.bal f i a d)) up := by
  refine mk h_nacelleref03_Balance rfl rfl ?_
  have e := balanceW_eq h hd h0 h1
  have g := infl_rng (b := b) (f := f) (i := i) h h0 h1
  have k := clsP_lo h (b.infl f i a d)
  unfold balanceW at e
  rw [wholeW_eq hd, infl_class h hd h0 h1] at e
  conv => whnf
  refine .mk _ _ _ _ _ (leL_refl _) (c_power _ d (by omega)) rfl ?_
  conv => whnf
  first
    | refine .mk 0 (by decide +kernel) ?_
    | refine .mk 1 (by decide +kernel) ?_
    | refine .mk 2 (by decide +kernel) ?_
    | refine .mk 3 (by decide +kernel) ?_
    | refine .mk 4 (by decide +kernel) ?_
    | refine .mk 5 (by decide +kernel) ?_
    | refine .mk 6 (by decide +kernel) ?_
    | refine .mk 7 (by decide +kernel) ?_
    | refine .mk 8 (by decide +kernel) ?_
    | refine .mk 9 (by decide +kernel) ?_
    | refine .mk 10 (by decide +kernel) ?_
    | refine .mk 11 (by decide +kernel) ?_
    | refine .mk 12 (by decide +kernel) ?_
    | refine .mk 13 (by decide +kernel) ?_
    | refine .mk 14 (by decide +kernel) ?_
    | refine .mk 15 (by decide +kernel) ?_
    | refine .mk 16 (by decide +kernel) ?_
    | refine .mk 17 (by decide +kernel) ?_
    | refine .mk 18 (by decide +kernel) ?_
    | refine .mk 19 (by decide +kernel) ?_
    | refine .mk 20 (by decide +kernel) ?_
    | refine .mk 21 (by decide +kernel) ?_
    | refine .mk 22 (by decide +kernel) ?_
    | refine .mk 23 (by decide +kernel) ?_
    | refine .mk 24 (by decide +kernel) ?_
    | refine .mk 25 (by decide +kernel) ?_
    | refine .mk 26 (by decide +kernel) ?_
    | refine .mk 27 (by decide +kernel) ?_
    | refine .mk 28 (by decide +kernel) ?_
    | refine .mk 29 (by decide +kernel) ?_
    | refine .mk 30 (by decide +kernel) ?_
    | refine .mk 31 (by decide +kernel) ?_
    | refine .mk 32 (by decide +kernel) ?_
    | refine .mk 33 (by decide +kernel) ?_
    | refine .mk 34 (by decide +kernel) ?_
    | refine .mk 35 (by decide +kernel) ?_
    | refine .mk 36 (by decide +kernel) ?_
    | refine .mk 37 (by decide +kernel) ?_
    | refine .mk 38 (by decide +kernel) ?_
    | refine .mk 39 (by decide +kernel) ?_
    | refine .mk 40 (by decide +kernel) ?_
    | refine .mk 41 (by decide +kernel) ?_
  conv => whnf
  first | refine CALLQ.mk _ _ _ (leL_refl _) (c_rInflow _ b f i h a d hd h0 h1) rfl ?_ | refine CALL0.mk _ _ _ _ _ (leL_refl _) (c_rInflow _ b f i h a d hd h0 h1) rfl ?_
  conv => whnf
  first | refine CALLQ.mk _ _ _ (leL_refl _) (c_rClass _ b f i h _ (by omega) (by omega)) rfl ?_ | refine CALL0.mk _ _ _ _ _ (leL_refl _) (c_rClass _ b f i h _ (by omega) (by omega)) rfl ?_
  conv => whnf
  split
  rotate_left
  · rename_i h
    have h' : decide (0 ≤ clsP b.nl (b.r3 i) f.p (b.infl f i a d)) = false := h
    simp at h' <;> omega
  conv => whnf
  split
  rotate_left
  · rename_i h
    have h' : decide (clsP b.nl (b.r3 i) f.p (b.infl f i a d) < b.nl) = false := h
    simp at h' <;> omega
  conv => whnf
  refine ⟨?_, rfl⟩
  exact congrArg (IV.int .i64) e
end Go.Proofs.YtllmejkmogepjaaDoor.Ix

/-
  Rz1: contracts of the reference's search for brackets.
-/
namespace Go.Proofs.YtllmejkmogepjaaDoor.Ix
open Go.Proofs
set_option maxRecDepth 100000
set_option linter.unusedVariables false
set_option linter.unusedSimpArgs false
variable {gl : Nat → IV}

theorem isBr_iff' {b : Bl} {f : Fl} {i D : Nat} (ok : b.ok f i) {a : Int} (h0 : 0 ≤ a) : isBr b f i a (D + 1) = true ↔ b.br f i D = some a := by
  unfold isBr
  simp only [Bool.and_eq_true, decide_eq_true_eq]
  constructor
  · intro h; exact (brP_some ok).2 ⟨h0, by simpa using h.1, h.2.1, h.2.2⟩
  · intro h
    obtain ⟨_, h1, h2, h3⟩ := (brP_some ok).1 h
    exact ⟨by simpa using h1, h2, h3⟩

end Go.Proofs.YtllmejkmogepjaaDoor.Ix

/-
  Rz2: contracts of the reference's forces: torques and thrusts of a ring, of all rings, of a blade.
-/
namespace Go.Proofs.YtllmejkmogepjaaDoor.Ix
open Go.Proofs
set_option maxRecDepth 100000
set_option linter.unusedVariables false
set_option linter.unusedSimpArgs false
variable {gl : Nat → IV}

/-- The least and the greatest value from lo on, k further ones. -/
def lowTo (g : Int → Int) (lo : Int) : Nat → Int
  | 0 => g lo
  | k + 1 => min (lowTo g lo k) (g (lo + k))
def topTo (g : Int → Int) (lo : Int) : Nat → Int
  | 0 => g lo
  | k + 1 => max (topTo g lo k) (g (lo + k))
theorem lowTo_le (g : Int → Int) (lo : Int) : ∀ k j : Nat, j < k → lowTo g lo k ≤ g (lo + j)
  | 0, j, h => by omega
  | k + 1, j, h => by
    simp only [lowTo]
    by_cases e : j = k
    · subst e; omega
    · have := lowTo_le g lo k j (by omega); omega
theorem topTo_le (g : Int → Int) (lo : Int) : ∀ k j : Nat, j < k → g (lo + j) ≤ topTo g lo k
  | 0, j, h => by omega
  | k + 1, j, h => by
    simp only [topTo]
    by_cases e : j = k
    · subst e; omega
    · have := topTo_le g lo k j (by omega); omega
theorem lowTo_at (g : Int → Int) (lo : Int) : ∀ k : Nat, ∃ j : Nat, (j < k ∨ j = 0) ∧ lowTo g lo k = g (lo + j)
  | 0 => ⟨0, .inr rfl, by simp [lowTo]⟩
  | k + 1 => by
    obtain ⟨j, h1, h2⟩ := lowTo_at g lo k
    simp only [lowTo]
    by_cases e : lowTo g lo k ≤ g (lo + k)
    · exact ⟨j, by omega, by omega⟩
    · exact ⟨k, by omega, by omega⟩
theorem topTo_at (g : Int → Int) (lo : Int) : ∀ k : Nat, ∃ j : Nat, (j < k ∨ j = 0) ∧ topTo g lo k = g (lo + j)
  | 0 => ⟨0, .inr rfl, by simp [topTo]⟩
  | k + 1 => by
    obtain ⟨j, h1, h2⟩ := topTo_at g lo k
    simp only [topTo]
    by_cases e : g (lo + k) ≤ topTo g lo k
    · exact ⟨j, by omega, by omega⟩
    · exact ⟨k, by omega, by omega⟩

/-- The torque out of the places where it bends is that out of all inflows. -/
theorem tor_all {b : Bl} {f : Fl} {i : Nat} (h : b.ok f i) {a : Int} {d : Nat} {n : Nat} (hn : b.infl f i (a + 1) d + n = b.infl f i a d + 1) (h1 : 1 ≤ n) :
    lowTo (b.of f i) (b.infl f i (a + 1) d) n = (b.tor f i a d).1 ∧ topTo (b.of f i) (b.infl f i (a + 1) d) n = (b.tor f i a d).2 := by
  have hlm := inflP_mono h (d := d) (show a ≤ a + 1 by omega)
  obtain ⟨x, y, x1, x2, y1, y2, e1, e2⟩ := stepsP_in (n := b.nl) (lf := b.lf) (df := b.df) (r := b.r1 i) (c := b.r2 i) (t := b.r3 i) (tip := b.r4 i) (p := f.p) hlm (b.nl + 2)
  obtain ⟨jl, l1, l2⟩ := lowTo_at (b.of f i) (b.infl f i (a + 1) d) n
  obtain ⟨jt, t1, t2⟩ := topTo_at (b.of f i) (b.infl f i (a + 1) d) n
  have hn : inflP (b.r1 i) f.w f.s (a + 1) d + n = inflP (b.r1 i) f.w f.s a d + 1 := hn
  have g1 := stepsP_all h (least := inflP (b.r1 i) f.w f.s (a + 1) d) (most := inflP (b.r1 i) f.w f.s a d) (x := inflP (b.r1 i) f.w f.s (a + 1) d + jl) (by omega) (by omega)
  have g2 := stepsP_all h (least := inflP (b.r1 i) f.w f.s (a + 1) d) (most := inflP (b.r1 i) f.w f.s a d) (x := inflP (b.r1 i) f.w f.s (a + 1) d + jt) (by omega) (by omega)
  have q1 := lowTo_le (b.of f i) (b.infl f i (a + 1) d) n (x - inflP (b.r1 i) f.w f.s (a + 1) d).toNat (by omega)
  have q2 := topTo_le (b.of f i) (b.infl f i (a + 1) d) n (y - inflP (b.r1 i) f.w f.s (a + 1) d).toNat (by omega)
  have ex : b.infl f i (a + 1) d + ((x - inflP (b.r1 i) f.w f.s (a + 1) d).toNat : Int) = x := by
    show inflP (b.r1 i) f.w f.s (a + 1) d + _ = x
    omega
  have ey : b.infl f i (a + 1) d + ((y - inflP (b.r1 i) f.w f.s (a + 1) d).toNat : Int) = y := by
    show inflP (b.r1 i) f.w f.s (a + 1) d + _ = y
    omega
  rw [ex] at q1
  rw [ey] at q2
  have q1 : lowTo (b.of f i) (b.infl f i (a + 1) d) n ≤ (b.tor f i a d).1 := Int.le_trans q1 (Int.le_of_eq e1.symm)
  have q2 : (b.tor f i a d).2 ≤ topTo (b.of f i) (b.infl f i (a + 1) d) n := Int.le_trans (Int.le_of_eq e2) q2
  have g1 : (b.tor f i a d).1 ≤ b.of f i (b.infl f i (a + 1) d + jl) := g1.1
  have g2 : b.of f i (b.infl f i (a + 1) d + jt) ≤ (b.tor f i a d).2 := g2.2
  omega

end Go.Proofs.YtllmejkmogepjaaDoor.Ix

/-
  Rz3: contracts of the reference's forces: all rings, the blade; the helpers light, span, SameTorques.
-/
namespace Go.Proofs.YtllmejkmogepjaaDoor.Ix
open Go.Proofs
set_option maxRecDepth 100000
set_option linter.unusedVariables false
set_option linter.unusedSimpArgs false
variable {gl : Nat → IV}

/-- The torques of all rings. -/
def Bl.tl (b : Bl) (f : Fl) (D : Nat) (i : Nat) : List IV := [.int .i64 (b.tor f i (b.at f i D) (D + 1)).1, .int .i64 (b.tor f i (b.at f i D) (D + 1)).2]

theorem not_all {b : Bl} {f : Fl} {D k : Nat} (hk : k < b.nr) (h : b.br f k D = none) : ¬ allBr b f 0 := fun q => by
  have := (allBr_iff 0 D).1 q k hk
  rw [h] at this; cases this

theorem T_part {b : Bl} {f : Fl} (g : Good b f) {D : Nat} (hD : D < 12) (h : allBr b f 0) {k : Nat} (hk : k ≤ b.nr) :
    (-16000000000000000 ≤ sumTo (fun i => (b.tor f i (b.at f i D) (D + 1)).1) k ∧ sumTo (fun i => (b.tor f i (b.at f i D) (D + 1)).1) k ≤ 16000000000000000) ∧
    (-16000000000000000 ≤ sumTo (fun i => (b.tor f i (b.at f i D) (D + 1)).2) k ∧ sumTo (fun i => (b.tor f i (b.at f i D) (D + 1)).2) k ≤ 16000000000000000) ∧
    (-16000000000000000 ≤ sumTo (fun i => (b.thr i (b.at f i D) (D + 1)).1) k ∧ sumTo (fun i => (b.thr i (b.at f i D) (D + 1)).1) k ≤ 16000000000000000) ∧
    (-16000000000000000 ≤ sumTo (fun i => (b.thr i (b.at f i D) (D + 1)).2) k ∧ sumTo (fun i => (b.thr i (b.at f i D) (D + 1)).2) k ≤ 16000000000000000) := by
  obtain ⟨hnd, hn1, hn2, ok⟩ := g.all
  have q : ∀ i, i < k → (b.br f i D) = some (b.at f i D) := fun i hi => br_at ((allBr_iff 0 D).1 h i (by omega))
  have t := fun i (hi : i < k) => tor_bound (ok i (by omega)) hD (q i hi)
  have u := fun i (hi : i < k) => thr_bound (ok i (by omega)) hD (q i hi)
  have s1 := sumTo_bound k (fun i hi => (t i hi).1)
  have s2 := sumTo_bound k (fun i hi => (t i hi).2)
  have s3 := sumTo_bound k (fun i hi => (u i hi).1)
  have s4 := sumTo_bound k (fun i hi => (u i hi).2)
  have hb : (k : Int) * 1000000000000000 ≤ 16000000000000000 := by omega
  refine ⟨⟨?_, ?_⟩, ⟨?_, ?_⟩, ⟨?_, ?_⟩, ?_, ?_⟩ <;> omega

end Go.Proofs.YtllmejkmogepjaaDoor.Ix

/-
  Ro8: contracts of the functions of the package rotor, the eighth part: records.
-/
namespace Go.Proofs.YtllmejkmogepjaaDoor.Ix
open Go.Proofs
set_option maxRecDepth 100000
set_option linter.unusedVariables false
set_option linter.unusedSimpArgs false
variable {gl : Nat → IV}

abbrev loadsI (o : Option Nat) (n : Nat) (x y z : Nat → Int) : IV := .lst o 3 n fun i => [.int .i64 (x i), .int .i64 (y i), .int .i64 (z i)]

theorem c_mapped3 (up : List Ces) (n : Nat) (hn : n ≤ 1000000) (x y z φ : Nat → Int) (k : Nat) (hk : ∀ up i, i < n → Cs gl k up [.agg [.int .i64 (x i), .int .i64 (y i), .int .i64 (z i)]] (.int .i64 (φ i)) up) :
    Cs gl n_rotor_mapped_3_int_api_Errno up [loadsI none n x y z, .fn k [] []] (.lst (some 19) 1 n fun i => [.int .i64 (φ i)]) up := by
  refine mk h_rotor_mapped_3_int_api_Errno rfl rfl ?_
  conv => whnf
  refine .mk (α := {i : Nat // i ≤ n}) (fun i => ⟨[(10, .int .i64 i.1), (9, .int .i64 n), (8, loadsI none n x y z), (5, .lst (some 19) 1 i.1 fun i => [.int .i64 (φ i)]), (1, .fn k [] [])], [], up⟩) (fun i => n - i.1) ⟨0, Nat.zero_le _⟩ ⟨?_, trivial, rfl, rfl⟩ ?_
  · exact ⟨leV_refl _, leV_refl _, leV_refl _, rfl, leV_refl _, trivial⟩
  · rintro ⟨i, hi⟩
    conv => whnf
    split
    · rename_i hb
      have hlt : i < n := by simpa using hb
      conv => whnf
      split
      rotate_left
      · rename_i h
        have h' : decide ((i : Int) < n) = false := h
        simp at h' <;> omega
      conv => whnf
      refine .mk _ _ _ _ _ (leL_refl _) (hk _ i hlt) rfl ?_
      conv => whnf
      split
      rotate_left
      · rename_i h
        have h' : decide (i + 1 ≤ 1073741824) = false := h
        simp at h' <;> omega
      conv => whnf
      refine ⟨⟨i + 1, hlt⟩, ⟨⟨leV_int ?_, leV_refl _, leV_refl _, ⟨.inr rfl, rfl, rfl, fun j hj => ?_⟩, leV_refl _, trivial⟩, trivial, rfl, rfl⟩, (by show n - (i + 1) < n - i; omega)⟩
      · show w64 ((i : Int) + 1) = ((i + 1 : Nat) : Int)
        rw [w64, wrap_in] <;> omega
      · show (if j < i then [IV.int .i64 (φ j)] else litF 1 [.int .i64 (φ i)] (j - i)) = [IV.int .i64 (φ j)]
        split
        · rfl
        · have : j = i := by have : j < i + 1 := hj; omega
          subst this; rw [Nat.sub_self]; rfl
    · rename_i hb
      have : i = n := by simp at hb; omega
      subst this
      conv => whnf
      exact ⟨rfl, rfl⟩

def recE (n : Nat) (x y z : Nat → Int) : Int := firstS (fun i => loadS (x i) (y i) (z i)) n 0

/-- The sum of what is made of the components of a record, or the error. -/
def recR (n : Nat) (x y z : Nat → Int) (φ : Int → Int → Nat → Int × Int) : IV :=
  bif decide ((n : Int) > 400) then .tup [.agg [.int .i64 0, .int .i64 0], .int .i64 5] else
    bif recE n x y z != 0 then .tup [.agg [.int .i64 0, .int .i64 0], .int .i64 (recE n x y z)] else
      .tup [.agg [.int .i64 (sumTo (fun i => (φ (x i - z i) (y i - z i) i).1) n), .int .i64 (sumTo (fun i => (φ (x i - z i) (y i - z i) i).2) n)], .int .i64 0]

theorem recE_ok {n : Nat} {x y z : Nat → Int} (h : recE n x y z = 0) : ∀ i, i < n → (-1000000 ≤ x i ∧ x i ≤ 1000000) ∧ (-1000000 ≤ y i ∧ y i ≤ 1000000) ∧ (-1000000 ≤ z i ∧ z i ≤ 1000000) := fun i hi => by
  unfold recE at h
  rw [firstS_zero] at h
  exact loadS_ok (h i (by omega) (by omega))

theorem c_record (up : List Ces) (n : Nat) (x y z : Nat → Int) (F : Nat) (φ : Int → Int → Nat → Int × Int) (h00 : ∀ t, φ 0 0 t = (0, 0))
    (hφ : ∀ a b t, -2000000 ≤ a → a ≤ 2000000 → -2000000 ≤ b → b ≤ 2000000 → (-4000000 ≤ (φ a b t).1 ∧ (φ a b t).1 ≤ 4000000) ∧ (-4000000 ≤ (φ a b t).2 ∧ (φ a b t).2 ≤ 4000000))
    (hF : ∀ up a b (t : Nat), t < 400 → -2000000 ≤ a → a ≤ 2000000 → -2000000 ≤ b → b ≤ 2000000 → Cs gl F up [.agg [.int .i64 a, .int .i64 b], .int .i64 t] (.agg [.int .i64 (φ a b t).1, .int .i64 (φ a b t).2]) up) :
    Cs gl n_rotor_record up [loadsI none n x y z, .fn F [] []] (recR n x y z φ) up := by
  refine mk h_rotor_record rfl rfl ?_
  unfold recR
  conv => whnf
  split
  · rename_i h
    have h : decide ((n : Int) > 400) = true := h
    rw [h]
    conv => whnf
    exact ⟨rfl, rfl⟩
  · rename_i h
    have h : decide ((n : Int) > 400) = false := h
    rw [h, cond_false]
    have hn : n ≤ 400 := by simp at h; omega
    conv => whnf
    refine .mk _ _ _ _ _ (leL_refl _) (c_mapped3 _ n (by omega) x y z (fun i => loadS (x i) (y i) (z i)) _ (fun up i _ => c_checkLoads up _ _ _)) rfl ?_
    conv => whnf
    refine .mk _ _ _ _ _ (leL_refl _) (c_first _ n (by omega) fun i => loadS (x i) (y i) (z i)) rfl ?_
    conv => whnf
    split
    · rename_i h
      have h : (recE n x y z != 0) = true := h
      rw [h]
      conv => whnf
      exact ⟨rfl, rfl⟩
    · rename_i h
      have h : (recE n x y z != 0) = false := h
      rw [h, cond_false]
      have hok := recE_ok (show recE n x y z = 0 by simpa using h)
      have hb : ∀ i, i < n → (-4000000 ≤ (φ (x i - z i) (y i - z i) i).1 ∧ (φ (x i - z i) (y i - z i) i).1 ≤ 4000000) ∧ (-4000000 ≤ (φ (x i - z i) (y i - z i) i).2 ∧ (φ (x i - z i) (y i - z i) i).2 ≤ 4000000) := fun i hi => by
        have := hok i hi
        exact hφ _ _ i (by omega) (by omega) (by omega) (by omega)
      conv => whnf
      split
      rotate_left
      · rename_i h
        have h' : decide ((n : Int) ≤ 1073741824) = false := h
        simp at h' <;> omega
      conv => whnf
      split
      rotate_left
      · rename_i h
        have h' : decide ((n : Int) = n) = false := h
        simp at h' <;> omega
      conv => whnf
      split
      rotate_left
      · rename_i h
        have h' : decide (n = ((n : Int)).toNat) = false := h
        simp at h' <;> omega
      conv => whnf
      refine .mk (α := {k : Nat // k ≤ n}) (fun k => ⟨[(31, .int .i64 k.1), (30, .int .i64 n), (29, loadsI none n x y z), (1, .fn F [] []), (4, .ptr 0 4 0), (8, .ptr 0 8 0)],
        [(8, [.int .i64 (sumTo (fun i => (φ (x i - z i) (y i - z i) i).1) k.1), .int .i64 (sumTo (fun i => (φ (x i - z i) (y i - z i) i).2) k.1)]), (4, [.int .i64 0, .int .i64 0])], up⟩) (fun k => n - k.1) ⟨0, Nat.zero_le _⟩ ⟨?_, ?_, rfl, rfl⟩ ?_
      · exact ⟨leV_refl _, leV_refl _, leV_view _ _ _ _, leV_refl _, leV_refl _, leV_refl _, trivial⟩
      · exact ⟨leL_refl _, leL_refl _, trivial⟩
      rintro ⟨k, hk⟩
      conv => whnf
      split
      · rename_i hb'
        have hlt : k < n := by
          have hb' : decide ((k : Int) < n) = true := hb'
          simpa using hb'
        have ho := hok k hlt
        have hq := hb k hlt
        have hw : w64 ((k : Int) + 1) = ((k + 1 : Nat) : Int) := by rw [w64, wrap_in] <;> omega
        have e1 : w64 (x k - z k) = x k - z k := by rw [w64, wrap_in] <;> omega
        have e2 : w64 (y k - z k) = y k - z k := by rw [w64, wrap_in] <;> omega
        have s1 := sumTo_bound (g := fun i => (φ (x i - z i) (y i - z i) i).1) (B := 4000000) k fun i hi => (hb i (by omega)).1
        have s2 := sumTo_bound (g := fun i => (φ (x i - z i) (y i - z i) i).2) (B := 4000000) k fun i hi => (hb i (by omega)).2
        have t1 : w64 (sumTo (fun i => (φ (x i - z i) (y i - z i) i).1) k + (φ (x k - z k) (y k - z k) k).1) = sumTo (fun i => (φ (x i - z i) (y i - z i) i).1) (k + 1) := by
          rw [w64, wrap_in]; rfl; omega; omega
        have t2 : w64 (sumTo (fun i => (φ (x i - z i) (y i - z i) i).2) k + (φ (x k - z k) (y k - z k) k).2) = sumTo (fun i => (φ (x i - z i) (y i - z i) i).2) (k + 1) := by
          rw [w64, wrap_in]; rfl; omega; omega
        conv => whnf
        split
        rotate_left
        · rename_i h
          have h' : decide ((k : Int) < n) = false := h
          simp at h' <;> omega
        conv => whnf
        refine .mk _ _ _ _ _ (leL_refl _) (c_component _ _ _ _) rfl ?_
        conv => whnf
        split
        · rename_i h
          have h : (w64 (x k - z k) == 0 && (w64 (y k - z k) == 0 && true)) = true := h
          rw [e1, e2] at h
          simp at h
          have p1 : sumTo (fun i => (φ (x i - z i) (y i - z i) i).1) (k + 1) = sumTo (fun i => (φ (x i - z i) (y i - z i) i).1) k := by
            show sumTo _ k + (φ (x k - z k) (y k - z k) k).1 = _
            rw [h.1, h.2, h00]; simp
          have p2 : sumTo (fun i => (φ (x i - z i) (y i - z i) i).2) (k + 1) = sumTo (fun i => (φ (x i - z i) (y i - z i) i).2) k := by
            show sumTo _ k + (φ (x k - z k) (y k - z k) k).2 = _
            rw [h.1, h.2, h00]; simp
          conv => whnf
          exact ⟨⟨k + 1, hlt⟩, ⟨⟨leV_int hw, leV_refl _, leV_refl _, leV_refl _, leV_refl _, leV_refl _, trivial⟩, ⟨⟨leV_int p1.symm, leV_int p2.symm, trivial⟩, leL_refl _, trivial⟩, rfl, rfl⟩, (by show n - (k + 1) < n - k; omega)⟩
        · have hFw : ∀ up, Cs gl F up [.agg [.int .i64 (w64 (x k - z k)), .int .i64 (w64 (y k - z k))], .int .i64 k] (.agg [.int .i64 (φ (x k - z k) (y k - z k) k).1, .int .i64 (φ (x k - z k) (y k - z k) k).2]) up := fun up => by
            rw [e1, e2]
            exact hF up _ _ k (by omega) (by omega) (by omega) (by omega) (by omega)
          conv => whnf
          refine .mk _ _ _ _ _ (leL_refl _) (hFw _) rfl ?_
          conv => whnf
          exact ⟨⟨k + 1, hlt⟩, ⟨⟨leV_int hw, leV_refl _, leV_refl _, leV_refl _, leV_refl _, leV_refl _, trivial⟩, ⟨⟨leV_int t1, leV_int t2, trivial⟩, leL_refl _, trivial⟩, rfl, rfl⟩, (by show n - (k + 1) < n - k; omega)⟩
      · rename_i hb'
        have : k = n := by
          have hb' : decide ((k : Int) < n) = false := hb'
          simp at hb'; omega
        subst this
        conv => whnf
        exact ⟨rfl, rfl⟩

theorem c_Rot1 (up : List Ces) (a b t : Int) : Cs gl n_rotor_Rotating_1 up [.agg [.int .i64 a, .int .i64 b], .int .i64 t] (.agg [.int .i64 a, .int .i64 b]) up := by
  refine mk h_rotor_Rotating_1 rfl rfl ?_
  conv => whnf
  exact ⟨rfl, rfl⟩

/-- What Rotating and Fixed hand back. -/
def rotR (n : Nat) (x y z : Nat → Int) : IV := recR n x y z fun a b _ => (a, b)
def fixR (n : Nat) (x y z : Nat → Int) : IV := recR n x y z fun a b t => turnP a b t

theorem recR_tup (n : Nat) (x y z : Nat → Int) (φ : Int → Int → Nat → Int × Int) : ∃ A B E, recR n x y z φ = .tup [.agg [.int .i64 A, .int .i64 B], .int .i64 E] := by
  unfold recR
  cases decide ((n : Int) > 400) <;> cases recE n x y z != 0 <;> exact ⟨_, _, _, rfl⟩

theorem c_Rotating (up : List Ces) (n : Nat) (x y z : Nat → Int) : Cs gl n_rotor_Rotating up [loadsI none n x y z] (rotR n x y z) up := by
  refine mk h_rotor_Rotating rfl rfl ?_
  have h := fun up => c_record (gl := gl) up n x y z n_rotor_Rotating_1 (fun a b _ => (a, b)) (fun _ => rfl) (fun a b t h1 h2 h3 h4 => ⟨⟨by omega, by omega⟩, by omega, by omega⟩) (fun up a b t _ _ _ _ _ => c_Rot1 up a b t)
  unfold rotR
  obtain ⟨A, B, E, e⟩ := recR_tup n x y z fun a b _ => (a, b)
  rw [e] at h ⊢
  conv => whnf
  refine .mk _ _ _ _ _ (leL_refl _) (h _) rfl ?_
  conv => whnf
  exact ⟨rfl, rfl⟩

theorem c_Fixed (up : List Ces) (hg : gl g_rotor_roots = rootsI) (n : Nat) (x y z : Nat → Int) : Cs gl n_rotor_Fixed up [loadsI none n x y z] (fixR n x y z) up := by
  refine mk h_rotor_Fixed rfl rfl ?_
  have h := fun up => c_record (gl := gl) up n x y z n_rotor_Pair_turned (fun a b t => turnP a b t) (fun t => by unfold turnP; split; rfl; split <;> rfl)
    (fun a b t h1 h2 h3 h4 => by unfold turnP; split; exact ⟨⟨by simp only; omega, by simp only; omega⟩, by simp only; omega, by simp only; omega⟩; split <;> exact ⟨⟨by simp only; omega, by simp only; omega⟩, by simp only; omega, by simp only; omega⟩)
    (fun up a b t _ _ _ _ _ => c_turned up hg a b t (by omega) (by omega))
  unfold fixR
  obtain ⟨A, B, E, e⟩ := recR_tup n x y z fun a b t => turnP a b t
  rw [e] at h ⊢
  conv => whnf
  refine .mk _ _ _ _ _ (leL_refl _) (h _) rfl ?_
  conv => whnf
  exact ⟨rfl, rfl⟩
end Go.Proofs.YtllmejkmogepjaaDoor.Ix

/-
  Aw1: the package rotor returns the results of the examples: awake() is true.
-/
namespace Go.Proofs.YtllmejkmogepjaaDoor.Ix
open Go.Proofs
set_option maxRecDepth 100000
set_option linter.unusedVariables false
set_option linter.unusedSimpArgs false
variable {gl : Nat → IV}

/-- A result may be told otherwise. -/
theorem Comp.res {P : Program} {gl : Nat → IV} {g : Nat} {up up' : List Ces} {args : List IV} {r r' : IV} (h : Comp P gl g up args r up') (hle : leV r r') : Comp P gl g up args r' up' :=
  ⟨h.1, fun vals w I X β σ hm hl ha => (h.2 vals w I X β σ hm hl ha).mono fun e w' ⟨v, I', s, e1, e2, e3⟩ => ⟨v, I', s, e1, leV_sound _ _ _ hle e2, e3⟩⟩

/-- The blade of the examples. -/
def exB : Bl := ⟨3, 3, 1, fun i => [0, 1, 2].getD i 0, fun i => [0, 0, 1].getD i 0, fun _ => 2, fun _ => 1, fun _ => 0, fun _ => 256⟩
def exF (p : Int) : Fl := ⟨1, 256, p⟩

theorem c_sample (up : List Ces) : Cs gl n_nacellelaw03_sample up [] exB.iv up := by
  have h : Cs gl n_nacellelaw03_sample up [] (.agg [.lst (some 1) 1 3 (litF 1 [.int .i64 0, .int .i64 1, .int .i64 2]), .lst (some 2) 1 3 (litF 1 [.int .i64 0, .int .i64 0, .int .i64 1]), .lst (some 5) 4 1 (litF 4 [.int .i64 2, .int .i64 1, .int .i64 0, .int .i64 256])]) up := by
    refine mk h_nacellelaw03_sample rfl rfl ?_
    conv => whnf
    exact ⟨rfl, rfl⟩
  refine h.res ⟨⟨.inl rfl, rfl, rfl, fun i hi => ?_⟩, ⟨.inl rfl, rfl, rfl, fun i hi => ?_⟩, ⟨.inl rfl, rfl, rfl, fun i hi => ?_⟩, trivial⟩
  · match i, hi with
    | 0, _ => rfl
    | 1, _ => rfl
    | 2, _ => rfl
  · match i, hi with
    | 0, _ => rfl
    | 1, _ => rfl
    | 2, _ => rfl
  · match i, hi with
    | 0, _ => rfl

theorem c_breeze (up : List Ces) (p : Int) : Cs gl n_nacellelaw03_breeze up [.int .i64 p] (flowI 1 256 p) up := by
  refine mk h_nacellelaw03_breeze rfl rfl ?_
  conv => whnf
  exact ⟨rfl, rfl⟩

theorem a_Inflow (up : List Ces) : Cs gl n_rotor_Inflow up [exB.iv, flowI 1 256 0, .int .i64 0, .agg [.int .i64 1, .int .i64 3]] (.tup [.int .i64 1, .int .i64 0]) up := by
  rw [← show inflR exB (exF 0) 0 1 3 = .tup [.int .i64 1, .int .i64 0] by kernel_rfl]
  exact c_Inflow up exB (exF 0) 0 1 3

theorem a_Balance (up : List Ces) (a z : Int) (h : balR exB (exF 0) 0 a 3 = .tup [.int .i64 z, .int .i64 0]) : Cs gl n_rotor_Balance up [exB.iv, flowI 1 256 0, .int .i64 0, .agg [.int .i64 a, .int .i64 3]] (.tup [.int .i64 z, .int .i64 0]) up := by
  rw [← h]
  exact c_Balance up exB (exF 0) 0 a 3

theorem a_Find (up : List Ces) (p d a e z : Int) (h : findR exB (exF p) 0 d = .tup [.agg [.int .i64 a, .int .i64 e], .int .i64 z]) : Cs gl n_rotor_Find up [exB.iv, flowI 1 256 p, .int .i64 0, .int .i64 d] (.tup [.agg [.int .i64 a, .int .i64 e], .int .i64 z]) up := by
  rw [← h]
  exact c_Find up exB (exF p) 0 d

theorem a_Thrust (up : List Ces) : Cs gl n_rotor_Thrust up [exB.iv, flowI 1 256 0, .int .i64 3] (.tup [.agg [.int .i64 14336, .int .i64 24576], .int .i64 0]) up := by
  rw [← show sumR exB (exF 0) 3 (fun i a d => exB.thr i a d) = .tup [.agg [.int .i64 14336, .int .i64 24576], .int .i64 0] by kernel_rfl]
  exact c_Thrust up exB (exF 0) 3

theorem a_Torque (up : List Ces) (p d x y : Int) (h : sumR exB (exF p) d (fun i a d => exB.tor (exF p) i a d) = .tup [.agg [.int .i64 x, .int .i64 y], .int .i64 0]) : Cs gl n_rotor_Torque up [exB.iv, flowI 1 256 p, .int .i64 d] (.tup [.agg [.int .i64 x, .int .i64 y], .int .i64 0]) up := by
  rw [← h]
  exact c_Torque up exB (exF p) d

theorem a_Best (up : List Ces) : Cs gl n_rotor_Best up [exB.iv, flowI 1 256 0, .int .i64 3, .int .i64 (-1), .int .i64 1] (.tup [.int .i64 0, .agg [.int .i64 512, .int .i64 512], .int .i64 0]) up := by
  rw [← show bestR exB (exF 0) 3 (-1) 1 = .tup [.int .i64 0, .agg [.int .i64 512, .int .i64 512], .int .i64 0] by kernel_rfl]
  exact c_Best up exB (exF 0) 3 (-1) 1

theorem a_Limit (up : List Ces) (m e : Int) (h : limR exB (exF 0) 3 (-1) 1 m = .tup [.int .i64 0, .int .i64 e]) : Cs gl n_rotor_Limit up [exB.iv, flowI 1 256 0, .int .i64 3, .int .i64 (-1), .int .i64 1, .int .i64 m] (.tup [.int .i64 0, .int .i64 e]) up := by
  rw [← h]
  exact c_Limit up exB (exF 0) 3 (-1) 1 m

theorem a_Split (up : List Ces) : Cs gl n_rotor_Split up [.agg [.int .i64 4, .int .i64 1, .int .i64 1]] (.tup [.int .i64 6, .agg [.int .i64 3, .int .i64 0], .int .i64 0]) up := by
  rw [← show splitR 4 1 1 = .tup [.int .i64 6, .agg [.int .i64 3, .int .i64 0], .int .i64 0] by kernel_rfl]
  exact c_Split up 4 1 1

theorem a_Turn (up : List Ces) (hr : gl g_rotor_roots = rootsI) : Cs gl n_rotor_Turn up [.agg [.int .i64 3, .int .i64 0], .int .i64 1] (.tup [.agg [.int .i64 0, .int .i64 3], .int .i64 0]) up := by
  rw [← show turnR 3 0 1 = .tup [.agg [.int .i64 0, .int .i64 3], .int .i64 0] by kernel_rfl]
  exact c_Turn up hr 3 0 1

theorem a_Merge (up : List Ces) (a b x y z e : Int) (h : mergeR 6 a b = .tup [.agg [.int .i64 x, .int .i64 y, .int .i64 z], .int .i64 e]) : Cs gl n_rotor_Merge up [.int .i64 6, .agg [.int .i64 a, .int .i64 b]] (.tup [.agg [.int .i64 x, .int .i64 y, .int .i64 z], .int .i64 e]) up := by
  rw [← h]
  exact c_Merge up 6 a b

theorem a_Times (up : List Ces) : Cs gl n_rotor_Times up [.agg [.int .i64 1, .int .i64 2], .agg [.int .i64 1, .int .i64 2]] (.tup [.agg [.int .i64 (-3), .int .i64 0], .int .i64 0]) up := by
  rw [← show timesR 1 2 1 2 = .tup [.agg [.int .i64 (-3), .int .i64 0], .int .i64 0] by kernel_rfl]
  exact c_Times up 1 2 1 2

theorem a_Norm (up : List Ces) : Cs gl n_rotor_Norm up [.agg [.int .i64 1, .int .i64 2]] (.tup [.int .i64 3, .int .i64 0]) up := by
  rw [← show normR 1 2 = .tup [.int .i64 3, .int .i64 0] by kernel_rfl]
  exact c_Norm up 1 2

abbrev recF : Nat → List IV := litF 3 [.int .i64 4, .int .i64 1, .int .i64 1, .int .i64 1, .int .i64 4, .int .i64 1]
def recX (i : Nat) : Int := [4, 1].getD i 0
def recY (i : Nat) : Int := [1, 4].getD i 0
theorem rec_le : leL [.lst none 3 2 recF] [loadsI none 2 recX recY fun _ => 1] := ⟨⟨.inl rfl, rfl, rfl, fun i hi => by
  match i, hi with
  | 0, _ => rfl
  | 1, _ => rfl⟩, trivial⟩

theorem a_Rotating (up : List Ces) : Cs gl n_rotor_Rotating up [.lst none 3 2 recF] (.tup [.agg [.int .i64 3, .int .i64 3], .int .i64 0]) up := by
  rw [← show rotR 2 recX recY (fun _ => 1) = .tup [.agg [.int .i64 3, .int .i64 3], .int .i64 0] by kernel_rfl]
  exact Comp.le rec_le (c_Rotating up 2 recX recY fun _ => 1)

theorem a_Fixed (up : List Ces) (hr : gl g_rotor_roots = rootsI) : Cs gl n_rotor_Fixed up [.lst none 3 2 recF] (.tup [.agg [.int .i64 0, .int .i64 (-3)], .int .i64 0]) up := by
  rw [← show fixR 2 recX recY (fun _ => 1) = .tup [.agg [.int .i64 0, .int .i64 (-3)], .int .i64 0] by kernel_rfl]
  exact Comp.le rec_le (c_Fixed up hr 2 recX recY fun _ => 1)

theorem itoa_small {i : Nat} (h : i < 10) : Go.Lib.itoa (i : Int) = [UInt8.ofNat (48 + i)] := by rw [Go.Lib.itoa_nonneg, Go.Lib.decDigits_one h]
theorem itoa_256 : Go.Lib.itoa 256 = [50, 53, 54] := by
  rw [show (256 : Int) = ((256 : Nat) : Int) from rfl, Go.Lib.itoa_nonneg, Go.Lib.decDigits, dif_neg (by decide), Go.Lib.decDigits_two (by decide) (by decide)]
  rfl

abbrev exT : List UInt8 := [112, 111, 108, 97, 114, 32, 48, 32, 48, 32, 49, 32, 48, 32, 50, 32, 49, 10, 114, 105, 110, 103, 32, 50, 32, 49, 32, 48, 32, 50, 53, 54, 10]
theorem exB_text : exB.text = exT := by
  have i0 : Go.Lib.itoa 0 = [48] := itoa_small (i := 0) (by decide)
  have i1 : Go.Lib.itoa 1 = [49] := itoa_small (i := 1) (by decide)
  have i2 : Go.Lib.itoa 2 = [50] := itoa_small (i := 2) (by decide)
  have h1 : numsS exB.pol 6 = [32, 48, 32, 48, 32, 49, 32, 48, 32, 50, 32, 49] := by
    show ((((((([] : List UInt8) ++ 32 :: Go.Lib.itoa 0) ++ 32 :: Go.Lib.itoa 0) ++ 32 :: Go.Lib.itoa 1) ++ 32 :: Go.Lib.itoa 0) ++ 32 :: Go.Lib.itoa 2) ++ 32 :: Go.Lib.itoa 1) = _
    rw [i0, i1, i2]; rfl
  have h2 : numsS (exB.ring 0) 4 = [32, 50, 32, 49, 32, 48, 32, 50, 53, 54] := by
    show ((((([] : List UInt8) ++ 32 :: Go.Lib.itoa 2) ++ 32 :: Go.Lib.itoa 1) ++ 32 :: Go.Lib.itoa 0) ++ 32 :: Go.Lib.itoa 256) = _
    rw [i0, i1, i2, itoa_256]; rfl
  show (polarW ++ numsS exB.pol 6 ++ [10]) ++ ([] ++ (ringW ++ numsS (exB.ring 0) 4 ++ [10])) = _
  rw [h1, h2]; rfl

theorem a_Print (up : List Ces) (hp : gl g_internal_strconv_uint64pow10 = powI) : Cs gl n_rotor_Print up [exB.iv] (.tup [.str (bytesS exT), .int .i64 0]) up := by
  have h := c_Print up hp exB
  unfold printR at h
  rw [exB_text, show (exB.err != 0) = false by kernel_rfl] at h
  exact h

theorem c_awake (up : List Ces) (hr : gl g_rotor_roots = rootsI) (hp : gl g_internal_strconv_uint64pow10 = powI) : Cs gl n_nacellelaw03_awake up [] (.bool true) up := by
  refine mk h_nacellelaw03_awake rfl rfl ?_
  conv => whnf
  refine .mk _ _ _ _ _ (leL_refl _) (c_sample _) rfl ?_
  conv => whnf
  refine .mk _ _ _ _ _ (leL_refl _) (c_breeze _ _) rfl ?_
  conv => whnf
  refine .mk _ _ _ _ _ (leL_refl _) (a_Inflow _) rfl ?_
  conv => whnf
  refine .mk _ _ _ _ _ (leL_refl _) (c_sample _) rfl ?_
  conv => whnf
  refine .mk _ _ _ _ _ (leL_refl _) (c_breeze _ _) rfl ?_
  conv => whnf
  refine .mk _ _ _ _ _ (leL_refl _) (a_Balance _ 0 (-32768) (by kernel_rfl)) rfl ?_
  conv => whnf
  refine .mk _ _ _ _ _ (leL_refl _) (c_sample _) rfl ?_
  conv => whnf
  refine .mk _ _ _ _ _ (leL_refl _) (c_breeze _ _) rfl ?_
  conv => whnf
  refine .mk _ _ _ _ _ (leL_refl _) (a_Balance _ 1 (-2048) (by kernel_rfl)) rfl ?_
  conv => whnf
  refine .mk _ _ _ _ _ (leL_refl _) (c_sample _) rfl ?_
  conv => whnf
  refine .mk _ _ _ _ _ (leL_refl _) (c_breeze _ _) rfl ?_
  conv => whnf
  refine .mk _ _ _ _ _ (leL_refl _) (a_Balance _ 2 8192 (by kernel_rfl)) rfl ?_
  conv => whnf
  refine .mk _ _ _ _ _ (leL_refl _) (c_sample _) rfl ?_
  conv => whnf
  refine .mk _ _ _ _ _ (leL_refl _) (c_breeze _ _) rfl ?_
  conv => whnf
  refine .mk _ _ _ _ _ (leL_refl _) (a_Find _ 0 3 1 3 0 (by kernel_rfl)) rfl ?_
  conv => whnf
  refine .mk _ _ _ _ _ (leL_refl _) (c_sample _) rfl ?_
  conv => whnf
  refine .mk _ _ _ _ _ (leL_refl _) (c_breeze _ _) rfl ?_
  conv => whnf
  refine .mk _ _ _ _ _ (leL_refl _) (a_Find _ 0 2 0 2 0 (by kernel_rfl)) rfl ?_
  conv => whnf
  refine .mk _ _ _ _ _ (leL_refl _) (c_sample _) rfl ?_
  conv => whnf
  refine .mk _ _ _ _ _ (leL_refl _) (c_breeze _ _) rfl ?_
  conv => whnf
  refine .mk _ _ _ _ _ (leL_refl _) (a_Find _ 1 3 0 3 0 (by kernel_rfl)) rfl ?_
  conv => whnf
  refine .mk _ _ _ _ _ (leL_refl _) (c_sample _) rfl ?_
  conv => whnf
  refine .mk _ _ _ _ _ (leL_refl _) (c_breeze _ _) rfl ?_
  conv => whnf
  refine .mk _ _ _ _ _ (leL_refl _) (a_Find _ (-1) 3 0 0 7 (by kernel_rfl)) rfl ?_
  conv => whnf
  refine .mk _ _ _ _ _ (leL_refl _) (c_sample _) rfl ?_
  conv => whnf
  refine .mk _ _ _ _ _ (leL_refl _) (c_breeze _ _) rfl ?_
  conv => whnf
  refine .mk _ _ _ _ _ (leL_refl _) (a_Thrust _) rfl ?_
  conv => whnf
  refine .mk _ _ _ _ _ (leL_refl _) (c_sample _) rfl ?_
  conv => whnf
  refine .mk _ _ _ _ _ (leL_refl _) (c_breeze _ _) rfl ?_
  conv => whnf
  refine .mk _ _ _ _ _ (leL_refl _) (a_Torque _ 0 3 512 512 (by kernel_rfl)) rfl ?_
  conv => whnf
  refine .mk _ _ _ _ _ (leL_refl _) (c_sample _) rfl ?_
  conv => whnf
  refine .mk _ _ _ _ _ (leL_refl _) (c_breeze _ _) rfl ?_
  conv => whnf
  refine .mk _ _ _ _ _ (leL_refl _) (a_Torque _ 0 2 (-522240) 512 (by kernel_rfl)) rfl ?_
  conv => whnf
  refine .mk _ _ _ _ _ (leL_refl _) (c_sample _) rfl ?_
  conv => whnf
  refine .mk _ _ _ _ _ (leL_refl _) (c_breeze _ _) rfl ?_
  conv => whnf
  refine .mk _ _ _ _ _ (leL_refl _) (a_Torque _ 1 3 0 1024 (by kernel_rfl)) rfl ?_
  conv => whnf
  refine .mk _ _ _ _ _ (leL_refl _) (c_sample _) rfl ?_
  conv => whnf
  refine .mk _ _ _ _ _ (leL_refl _) (c_breeze _ _) rfl ?_
  conv => whnf
  refine .mk _ _ _ _ _ (leL_refl _) (a_Best _) rfl ?_
  conv => whnf
  refine .mk _ _ _ _ _ (leL_refl _) (c_sample _) rfl ?_
  conv => whnf
  refine .mk _ _ _ _ _ (leL_refl _) (c_breeze _ _) rfl ?_
  conv => whnf
  refine .mk _ _ _ _ _ (leL_refl _) (a_Limit _ 512 0 (by kernel_rfl)) rfl ?_
  conv => whnf
  refine .mk _ _ _ _ _ (leL_refl _) (c_sample _) rfl ?_
  conv => whnf
  refine .mk _ _ _ _ _ (leL_refl _) (c_breeze _ _) rfl ?_
  conv => whnf
  refine .mk _ _ _ _ _ (leL_refl _) (a_Limit _ 511 7 (by kernel_rfl)) rfl ?_
  conv => whnf
  refine .mk _ _ _ _ _ (leL_refl _) (a_Split _) rfl ?_
  conv => whnf
  refine .mk _ _ _ _ _ (leL_refl _) (a_Turn _ hr) rfl ?_
  conv => whnf
  refine .mk _ _ _ _ _ (leL_refl _) (a_Merge _ 0 3 1 4 1 0 (by kernel_rfl)) rfl ?_
  conv => whnf
  refine .mk _ _ _ _ _ (leL_refl _) (a_Merge _ 1 0 0 0 0 30 (by kernel_rfl)) rfl ?_
  conv => whnf
  refine .mk _ _ _ _ _ (leL_refl _) (a_Times _) rfl ?_
  conv => whnf
  refine .mk _ _ _ _ _ (leL_refl _) (a_Norm _) rfl ?_
  conv => whnf
  refine .mk _ _ _ _ _ (leL_refl _) (a_Rotating _) rfl ?_
  conv => whnf
  refine .mk _ _ _ _ _ (leL_refl _) (a_Fixed _ hr) rfl ?_
  conv => whnf
  refine .mk _ _ _ _ _ (leL_refl _) (c_sample _) rfl ?_
  conv => whnf
  refine .mk _ _ _ _ _ (leL_refl _) (a_Print _ hp) rfl ?_
  conv => whnf
  refine ⟨?_, rfl⟩
  show IV.bool ((bytesS exT).toList == (bytesS exT).toList) = _
  rw [beq_self_eq_true]
end Go.Proofs.YtllmejkmogepjaaDoor.Ix

/-
  Li1: RotorInflows: the law.
-/
namespace Go.Proofs.YtllmejkmogepjaaDoor.Ix
open Go.Proofs
set_option maxRecDepth 100000
set_option linter.unusedVariables false
set_option linter.unusedSimpArgs false
variable {gl : Nat → IV}

theorem short_le {b : Bl} (h : b.short = true) : b.nl ≤ 1000000 ∧ b.nd ≤ 1000000 ∧ b.nr ≤ 1000000 := by
  unfold Bl.short at h
  simp at h
  omega

theorem inflR_z (b : Bl) (f : Fl) (ring a d : Int) : inflR b f ring a d = .tup [.int .i64 (zE (orE (ringErr b f ring) (indErr a d)) (b.infl f ring.toNat a d.toNat)), .int .i64 (orE (ringErr b f ring) (indErr a d))] := rfl
theorem balR_z (b : Bl) (f : Fl) (ring a d : Int) : balR b f ring a d = .tup [.int .i64 (zE (orE (ringErr b f ring) (indErr a d)) (b.bal f ring.toNat a d.toNat)), .int .i64 (orE (ringErr b f ring) (indErr a d))] := rfl
theorem classR_z (b : Bl) (f : Fl) (ring x : Int) : classR b f ring x = .tup [.int .i64 (zE (orE (ringErr b f ring) (withinS x 0 999999999)) (clsP b.nl (b.r3 ring.toNat) f.p x)), .int .i64 (orE (ringErr b f ring) (withinS x 0 999999999))] := rfl

theorem inflows_no (up : List Ces) (hr : gl g_rotor_roots = rootsI) (hp : gl g_internal_strconv_uint64pow10 = powI) (b : Bl) (f : Fl) (hs : b.short = false) (ring a d x D : Int) :
    Cs gl n_nacellelaw03_RotorInflows up [b.iv, f.iv, .agg [.int .i64 ring, .int .i64 a, .int .i64 d, .int .i64 x, .int .i64 D]] (.bool true) up := by
  refine mk h_nacellelaw03_RotorInflows rfl rfl ?_
  have hS := fun up => c_Short (gl := gl) up b
  rw [hs] at hS
  conv => whnf
  refine .mk _ _ _ _ _ (leL_refl _) (c_awake _ hr hp) rfl ?_
  conv => whnf
  refine .mk _ _ _ _ _ (leL_refl _) (hS _) rfl ?_
  conv => whnf
  refine .mk _ _ _ _ _ (leL_refl _) (c_awake _ hr hp) rfl ?_
  conv => whnf
  exact ⟨rfl, rfl⟩

/-- What is read behind each call. -/
def lvInflows : List (Nat × List Nat) := [(19, [3, 4, 5, 6, 7, 8, 9, 10, 11, 19]), (23, [3, 4, 5, 6, 7, 8, 9, 10, 11, 21, 23]), (26, [3, 4, 5, 6, 7, 8, 9, 10, 11, 26]), (29, [3, 4, 5, 6, 7, 8, 9, 10, 11, 29]), (35, [3, 4, 5, 6, 7, 8, 9, 10, 11, 35]), (40, [3, 4, 5, 6, 7, 8, 9, 10, 11, 40]), (46, [3, 4, 5, 6, 7, 8, 9, 10, 11, 46]), (51, [3, 4, 5, 6, 7, 8, 9, 10, 11, 51]), (57, [3, 4, 5, 6, 7, 8, 9, 10, 11, 57]), (64, [3, 4, 5, 6, 7, 8, 9, 10, 11, 12, 64]), (68, [3, 4, 5, 6, 7, 8, 9, 10, 11, 12, 13, 65, 68]), (70, [3, 4, 5, 6, 7, 8, 9, 10, 11, 12, 13, 70]), (74, [3, 4, 5, 6, 7, 8, 9, 10, 11, 12, 70, 71, 74]), (76, [3, 4, 5, 6, 7, 8, 9, 10, 11, 12, 70, 76]), (88, [3, 4, 5, 6, 7, 8, 9, 10, 11, 12, 14, 15, 16, 17, 18, 88]), (100, [3, 4, 5, 6, 7, 8, 9, 10, 11, 12, 14, 15, 16, 17, 18, 88, 100]), (114, [6, 7, 8, 9, 10, 11, 12, 14, 15, 16, 17, 18, 114]), (119, [6, 9, 10, 11, 12, 14, 15, 17, 18, 119]), (125, [6, 11, 12, 14, 18, 120, 125]), (132, [6, 127, 132])]
set_option maxHeartbeats 8000000 in
theorem inflows_yes (up : List Ces) (hr : gl g_rotor_roots = rootsI) (hp : gl g_internal_strconv_uint64pow10 = powI) (b : Bl) (f : Fl) (hs : b.short = true) (ring a d x D : Int) :
    Cs gl n_nacellelaw03_RotorInflows up [b.iv, f.iv, .agg [.int .i64 ring, .int .i64 a, .int .i64 d, .int .i64 x, .int .i64 D]] (.bool true) up := by
  obtain ⟨hl, hd, hn⟩ := short_le hs
  have hS := fun up => c_Short (gl := gl) up b
  rw [hs] at hS
  have hI := fun up => c_Inflow (gl := gl) up b f ring a d
  have hC := fun up => c_Class (gl := gl) up b f ring x
  have hB := fun up => c_Balance (gl := gl) up b f ring a d
  simp only [inflR_z, balR_z, classR_z] at hI hC hB
  have hA := fun up => c_awake (gl := gl) up hr hp
  have hb := fun up => c_blade (gl := gl) up b hl hd hn
  have hF := fun up (f : Nat → List IV) (x y : Int) (h0 : f 0 = [.int .i64 x]) (h1 : f 1 = [.int .i64 y]) => c_rf2 (gl := gl) up f x y h0 h1
  obtain ⟨R, hR⟩ : ∃ R, R = ringErr b f ring := ⟨_, rfl⟩
  obtain ⟨A, hA'⟩ : ∃ A, A = orE R (indErr a d) := ⟨_, rfl⟩
  obtain ⟨B, hB'⟩ : ∃ B, B = orE R (withinS x 0 999999999) := ⟨_, rfl⟩
  have k1 : A = 0 → 0 ≤ ring ∧ ring < b.nr ∧ b.ok f ring.toNat ∧ ∃ D : Nat, d = D ∧ D ≤ 12 ∧ 0 ≤ a ∧ a ≤ 2 ^ D := fun h => by
    rw [hA', hR, orE_zero] at h
    obtain ⟨g1, g2, g3, g4⟩ := ringErr_ok h.1
    obtain ⟨n, rfl, n2, n3, n4⟩ := indErr_ok h.2
    obtain ⟨_, _, _, ok⟩ := Bl.good g1 g2
    have hp := Int.pow_succ (2 : Int) n
    have hq := two_pos n
    exact ⟨g3, g4, ok _ (by omega), n + 1, rfl, by omega, n3, by omega⟩
  have k2 : B = 0 → 0 ≤ ring ∧ ring < b.nr ∧ b.ok f ring.toNat ∧ 0 ≤ x ∧ x ≤ 999999999 := fun h => by
    rw [hB', hR, orE_zero, withinS_zero] at h
    obtain ⟨g1, g2, g3, g4⟩ := ringErr_ok h.1
    obtain ⟨_, _, _, ok⟩ := Bl.good g1 g2
    exact ⟨g3, g4, ok _ (by omega), h.2⟩
  rw [← hR, ← hA'] at hI hB
  rw [← hR, ← hB'] at hC
  have hR2 := fun up => c_rCheckRing (gl := gl) up b f ring
  rw [← hR] at hR2
  have hf1 := fun up => c_rfl2 (gl := gl) up R (indErr a d)
  rw [← hA'] at hf1
  have hf2 := fun up => c_rfl2 (gl := gl) up R (withinS x 0 999999999)
  rw [← hB'] at hf2
  clear hR hA' hB'
  by_cases zA : A = 0
  · obtain ⟨r0, r1, ok, D', rfl, d1, a0, a1⟩ := k1 zA
    have hI2 := fun up => c_rInflow (gl := gl) up b f ring.toNat ok a D' d1 a0 a1
    have hB2 := fun up => c_rBalance (gl := gl) up b f ring.toNat ok a D' d1 a0 a1
    refine mk h_nacellelaw03_RotorInflows rfl rfl ?_
    conv => whnf
    repeat first
      | (show DRAW _ _ _ _ _; (first | refine .mk 0 (by decide +kernel) ?_ | refine .mk 1 (by decide +kernel) ?_ | refine .mk 2 (by decide +kernel) ?_ | refine .mk 3 (by decide +kernel) ?_ | refine .mk 4 (by decide +kernel) ?_ | refine .mk 5 (by decide +kernel) ?_ | refine .mk 6 (by decide +kernel) ?_ | refine .mk 7 (by decide +kernel) ?_ | refine .mk 8 (by decide +kernel) ?_ | refine .mk 9 (by decide +kernel) ?_ | refine .mk 10 (by decide +kernel) ?_ | refine .mk 11 (by decide +kernel) ?_ | refine .mk 12 (by decide +kernel) ?_ | refine .mk 13 (by decide +kernel) ?_ | refine .mk 14 (by decide +kernel) ?_ | refine .mk 15 (by decide +kernel) ?_ | refine .mk 16 (by decide +kernel) ?_ | refine .mk 17 (by decide +kernel) ?_ | refine .mk 18 (by decide +kernel) ?_ | refine .mk 19 (by decide +kernel) ?_ | refine .mk 20 (by decide +kernel) ?_ | refine .mk 21 (by decide +kernel) ?_ | refine .mk 22 (by decide +kernel) ?_ | refine .mk 23 (by decide +kernel) ?_ | refine .mk 24 (by decide +kernel) ?_ | refine .mk 25 (by decide +kernel) ?_ | refine .mk 26 (by decide +kernel) ?_ | refine .mk 27 (by decide +kernel) ?_ | refine .mk 28 (by decide +kernel) ?_ | refine .mk 29 (by decide +kernel) ?_ | refine .mk 30 (by decide +kernel) ?_ | refine .mk 31 (by decide +kernel) ?_ | refine .mk 32 (by decide +kernel) ?_ | refine .mk 33 (by decide +kernel) ?_ | refine .mk 34 (by decide +kernel) ?_ | refine .mk 35 (by decide +kernel) ?_ | refine .mk 36 (by decide +kernel) ?_ | refine .mk 37 (by decide +kernel) ?_ | refine .mk 38 (by decide +kernel) ?_ | refine .mk 39 (by decide +kernel) ?_ | refine .mk 40 (by decide +kernel) ?_ | refine .mk 41 (by decide +kernel) ?_); (conv => whnf))
      | (refine HOLD.mk (by first | exact trivial | exact ⟨⟨rfl, rfl⟩, trivial⟩ | exact ⟨⟨rfl, rfl⟩, ⟨rfl, rfl⟩, trivial⟩) ?_; (conv => whnf))
      | (refine CALL0.cutBy lvInflows _ _ _ _ _ (leL_refl _) (hA ..) rfl ?_; conv => whnf)
      | (refine CALL0.mk _ _ _ _ _ (leL_refl _) (hA ..) rfl ?_; conv => whnf)
      | (refine CALLQ.mk _ _ _ (leL_refl _) (hA ..) rfl ?_; conv => whnf)
      | (refine CALL0.cutBy lvInflows _ _ _ _ _ (leL_refl _) (hS ..) rfl ?_; conv => whnf)
      | (refine CALL0.mk _ _ _ _ _ (leL_refl _) (hS ..) rfl ?_; conv => whnf)
      | (refine CALLQ.mk _ _ _ (leL_refl _) (hS ..) rfl ?_; conv => whnf)
      | (refine CALL0.cutBy lvInflows _ _ _ _ _ (leL_refl _) (hb ..) rfl ?_; conv => whnf)
      | (refine CALL0.mk _ _ _ _ _ (leL_refl _) (hb ..) rfl ?_; conv => whnf)
      | (refine CALLQ.mk _ _ _ (leL_refl _) (hb ..) rfl ?_; conv => whnf)
      | (refine CALL0.cutBy lvInflows _ _ _ _ _ (leL_refl _) (hI ..) rfl ?_; conv => whnf)
      | (refine CALL0.mk _ _ _ _ _ (leL_refl _) (hI ..) rfl ?_; conv => whnf)
      | (refine CALLQ.mk _ _ _ (leL_refl _) (hI ..) rfl ?_; conv => whnf)
      | (refine CALL0.cutBy lvInflows _ _ _ _ _ (leL_refl _) (hC ..) rfl ?_; conv => whnf)
      | (refine CALL0.mk _ _ _ _ _ (leL_refl _) (hC ..) rfl ?_; conv => whnf)
      | (refine CALLQ.mk _ _ _ (leL_refl _) (hC ..) rfl ?_; conv => whnf)
      | (refine CALL0.cutBy lvInflows _ _ _ _ _ (leL_refl _) (hB ..) rfl ?_; conv => whnf)
      | (refine CALL0.mk _ _ _ _ _ (leL_refl _) (hB ..) rfl ?_; conv => whnf)
      | (refine CALLQ.mk _ _ _ (leL_refl _) (hB ..) rfl ?_; conv => whnf)
      | (refine CALL0.cutBy lvInflows _ _ _ _ _ (leL_refl _) (hR2 ..) rfl ?_; conv => whnf)
      | (refine CALL0.mk _ _ _ _ _ (leL_refl _) (hR2 ..) rfl ?_; conv => whnf)
      | (refine CALLQ.mk _ _ _ (leL_refl _) (hR2 ..) rfl ?_; conv => whnf)
      | (refine CALL0.cutBy lvInflows _ _ _ _ _ (leL_refl _) (c_rCheckInduction ..) rfl ?_; conv => whnf)
      | (refine CALL0.mk _ _ _ _ _ (leL_refl _) (c_rCheckInduction ..) rfl ?_; conv => whnf)
      | (refine CALLQ.mk _ _ _ (leL_refl _) (c_rCheckInduction ..) rfl ?_; conv => whnf)
      | (refine CALL0.cutBy lvInflows _ _ _ _ _ (leL_refl _) (c_CheckRange ..) rfl ?_; conv => whnf)
      | (refine CALL0.mk _ _ _ _ _ (leL_refl _) (c_CheckRange ..) rfl ?_; conv => whnf)
      | (refine CALLQ.mk _ _ _ (leL_refl _) (c_CheckRange ..) rfl ?_; conv => whnf)
      | (refine CALL0.cutBy lvInflows _ _ _ _ _ (leL_refl _) (hf1 ..) rfl ?_; conv => whnf)
      | (refine CALL0.mk _ _ _ _ _ (leL_refl _) (hf1 ..) rfl ?_; conv => whnf)
      | (refine CALLQ.mk _ _ _ (leL_refl _) (hf1 ..) rfl ?_; conv => whnf)
      | (refine CALL0.cutBy lvInflows _ _ _ _ _ (leL_refl _) (hf2 ..) rfl ?_; conv => whnf)
      | (refine CALL0.mk _ _ _ _ _ (leL_refl _) (hf2 ..) rfl ?_; conv => whnf)
      | (refine CALLQ.mk _ _ _ (leL_refl _) (hf2 ..) rfl ?_; conv => whnf)
    split
    rotate_left
    · rename_i h
      exact absurd h (by simp [zA])
    conv => whnf
    first
      | refine .mk 0 (by decide +kernel) ?_
      | refine .mk 1 (by decide +kernel) ?_
      | refine .mk 2 (by decide +kernel) ?_
      | refine .mk 3 (by decide +kernel) ?_
      | refine .mk 4 (by decide +kernel) ?_
      | refine .mk 5 (by decide +kernel) ?_
      | refine .mk 6 (by decide +kernel) ?_
      | refine .mk 7 (by decide +kernel) ?_
      | refine .mk 8 (by decide +kernel) ?_
      | refine .mk 9 (by decide +kernel) ?_
      | refine .mk 10 (by decide +kernel) ?_
      | refine .mk 11 (by decide +kernel) ?_
      | refine .mk 12 (by decide +kernel) ?_
      | refine .mk 13 (by decide +kernel) ?_
      | refine .mk 14 (by decide +kernel) ?_
      | refine .mk 15 (by decide +kernel) ?_
      | refine .mk 16 (by decide +kernel) ?_
      | refine .mk 17 (by decide +kernel) ?_
      | refine .mk 18 (by decide +kernel) ?_
      | refine .mk 19 (by decide +kernel) ?_
      | refine .mk 20 (by decide +kernel) ?_
      | refine .mk 21 (by decide +kernel) ?_
      | refine .mk 22 (by decide +kernel) ?_
      | refine .mk 23 (by decide +kernel) ?_
      | refine .mk 24 (by decide +kernel) ?_
      | refine .mk 25 (by decide +kernel) ?_
      | refine .mk 26 (by decide +kernel) ?_
      | refine .mk 27 (by decide +kernel) ?_
      | refine .mk 28 (by decide +kernel) ?_
      | refine .mk 29 (by decide +kernel) ?_
      | refine .mk 30 (by decide +kernel) ?_
      | refine .mk 31 (by decide +kernel) ?_
      | refine .mk 32 (by decide +kernel) ?_
      | refine .mk 33 (by decide +kernel) ?_
      | refine .mk 34 (by decide +kernel) ?_
      | refine .mk 35 (by decide +kernel) ?_
      | refine .mk 36 (by decide +kernel) ?_
      | refine .mk 37 (by decide +kernel) ?_
      | refine .mk 38 (by decide +kernel) ?_
      | refine .mk 39 (by decide +kernel) ?_
      | refine .mk 40 (by decide +kernel) ?_
      | refine .mk 41 (by decide +kernel) ?_
    conv => whnf
    split
    rotate_left
    · rename_i h
      have h' : decide (0 ≤ ring) = false := h
      simp at h' <;> omega
    conv => whnf
    split
    rotate_left
    · rename_i h
      have h' : decide (ring < b.nr) = false := h
      simp at h' <;> omega
    conv => whnf
    first | refine CALLQ.mk _ _ _ (leL_refl _) (hI2 _) rfl ?_ | refine CALL0.cutBy lvInflows _ _ _ _ _ (leL_refl _) (hI2 _) rfl ?_ | refine CALL0.mk _ _ _ _ _ (leL_refl _) (hI2 _) rfl ?_
    conv => whnf
    split
    rotate_left
    · rename_i h
      have h' : decide (0 ≤ ring) = false := h
      simp at h' <;> omega
    conv => whnf
    split
    rotate_left
    · rename_i h
      have h' : decide (ring < b.nr) = false := h
      simp at h' <;> omega
    conv => whnf
    first | refine CALLQ.mk _ _ _ (leL_refl _) (hB2 _) rfl ?_ | refine CALL0.cutBy lvInflows _ _ _ _ _ (leL_refl _) (hB2 _) rfl ?_ | refine CALL0.mk _ _ _ _ _ (leL_refl _) (hB2 _) rfl ?_
    conv => whnf
    by_cases zB : B = 0
    · obtain ⟨_, _, _, b0, b1⟩ := k2 zB
      have hC2 := fun up => c_rClass (gl := gl) up b f ring.toNat ok x (by omega) b1
      split
      rotate_left
      · rename_i h
        exact absurd h (by simp [zB])
      conv => whnf
      first
        | refine .mk 0 (by decide +kernel) ?_
        | refine .mk 1 (by decide +kernel) ?_
        | refine .mk 2 (by decide +kernel) ?_
        | refine .mk 3 (by decide +kernel) ?_
        | refine .mk 4 (by decide +kernel) ?_
        | refine .mk 5 (by decide +kernel) ?_
        | refine .mk 6 (by decide +kernel) ?_
        | refine .mk 7 (by decide +kernel) ?_
        | refine .mk 8 (by decide +kernel) ?_
        | refine .mk 9 (by decide +kernel) ?_
        | refine .mk 10 (by decide +kernel) ?_
        | refine .mk 11 (by decide +kernel) ?_
        | refine .mk 12 (by decide +kernel) ?_
        | refine .mk 13 (by decide +kernel) ?_
        | refine .mk 14 (by decide +kernel) ?_
        | refine .mk 15 (by decide +kernel) ?_
        | refine .mk 16 (by decide +kernel) ?_
        | refine .mk 17 (by decide +kernel) ?_
        | refine .mk 18 (by decide +kernel) ?_
        | refine .mk 19 (by decide +kernel) ?_
        | refine .mk 20 (by decide +kernel) ?_
        | refine .mk 21 (by decide +kernel) ?_
        | refine .mk 22 (by decide +kernel) ?_
        | refine .mk 23 (by decide +kernel) ?_
        | refine .mk 24 (by decide +kernel) ?_
        | refine .mk 25 (by decide +kernel) ?_
        | refine .mk 26 (by decide +kernel) ?_
        | refine .mk 27 (by decide +kernel) ?_
        | refine .mk 28 (by decide +kernel) ?_
        | refine .mk 29 (by decide +kernel) ?_
        | refine .mk 30 (by decide +kernel) ?_
        | refine .mk 31 (by decide +kernel) ?_
        | refine .mk 32 (by decide +kernel) ?_
        | refine .mk 33 (by decide +kernel) ?_
        | refine .mk 34 (by decide +kernel) ?_
        | refine .mk 35 (by decide +kernel) ?_
        | refine .mk 36 (by decide +kernel) ?_
        | refine .mk 37 (by decide +kernel) ?_
        | refine .mk 38 (by decide +kernel) ?_
        | refine .mk 39 (by decide +kernel) ?_
        | refine .mk 40 (by decide +kernel) ?_
        | refine .mk 41 (by decide +kernel) ?_
      conv => whnf
      split
      rotate_left
      · rename_i h
        have h' : decide (0 ≤ ring) = false := h
        simp at h' <;> omega
      conv => whnf
      split
      rotate_left
      · rename_i h
        have h' : decide (ring < b.nr) = false := h
        simp at h' <;> omega
      conv => whnf
      first | refine CALLQ.mk _ _ _ (leL_refl _) (hC2 _) rfl ?_ | refine CALL0.cutBy lvInflows _ _ _ _ _ (leL_refl _) (hC2 _) rfl ?_ | refine CALL0.mk _ _ _ _ _ (leL_refl _) (hC2 _) rfl ?_
      conv => whnf
      refine CALL0.cutBy lvInflows _ _ _ _ _ (leL_refl _) (c_number _ _ _ _ _ rfl (fun h => zE_ne h) (fun h => by first | exact absurd h zA | (rw [h]; rfl))) rfl ?_
      conv => whnf
      refine CALL0.cutBy lvInflows _ _ _ _ _ (leL_refl _) (c_number _ _ _ _ _ rfl (fun h => zE_ne h) (fun h => by first | exact absurd h zB | (rw [h]; rfl))) rfl ?_
      conv => whnf
      refine CALL0.cutBy lvInflows _ _ _ _ _ (leL_refl _) (c_number _ _ _ _ _ rfl (fun h => zE_ne h) (fun h => by first | exact absurd h zA | (rw [h]; rfl))) rfl ?_
      conv => whnf
      exact ⟨rfl, rfl⟩
    · split
      · rename_i h
        exact absurd h (by simp [zB])
      rename_i hN
      clear hN
      conv => whnf
      refine CALL0.cutBy lvInflows _ _ _ _ _ (leL_refl _) (c_number _ _ _ _ _ rfl (fun h => zE_ne h) (fun h => by first | exact absurd h zA | (rw [h]; rfl))) rfl ?_
      conv => whnf
      refine CALL0.cutBy lvInflows _ _ _ _ _ (leL_refl _) (c_number _ _ _ _ _ rfl (fun h => zE_ne h) (fun h => by first | exact absurd h zB | (rw [h]; rfl))) rfl ?_
      conv => whnf
      refine CALL0.cutBy lvInflows _ _ _ _ _ (leL_refl _) (c_number _ _ _ _ _ rfl (fun h => zE_ne h) (fun h => by first | exact absurd h zA | (rw [h]; rfl))) rfl ?_
      conv => whnf
      exact ⟨rfl, rfl⟩
  · refine mk h_nacellelaw03_RotorInflows rfl rfl ?_
    conv => whnf
    repeat first
      | (show DRAW _ _ _ _ _; (first | refine .mk 0 (by decide +kernel) ?_ | refine .mk 1 (by decide +kernel) ?_ | refine .mk 2 (by decide +kernel) ?_ | refine .mk 3 (by decide +kernel) ?_ | refine .mk 4 (by decide +kernel) ?_ | refine .mk 5 (by decide +kernel) ?_ | refine .mk 6 (by decide +kernel) ?_ | refine .mk 7 (by decide +kernel) ?_ | refine .mk 8 (by decide +kernel) ?_ | refine .mk 9 (by decide +kernel) ?_ | refine .mk 10 (by decide +kernel) ?_ | refine .mk 11 (by decide +kernel) ?_ | refine .mk 12 (by decide +kernel) ?_ | refine .mk 13 (by decide +kernel) ?_ | refine .mk 14 (by decide +kernel) ?_ | refine .mk 15 (by decide +kernel) ?_ | refine .mk 16 (by decide +kernel) ?_ | refine .mk 17 (by decide +kernel) ?_ | refine .mk 18 (by decide +kernel) ?_ | refine .mk 19 (by decide +kernel) ?_ | refine .mk 20 (by decide +kernel) ?_ | refine .mk 21 (by decide +kernel) ?_ | refine .mk 22 (by decide +kernel) ?_ | refine .mk 23 (by decide +kernel) ?_ | refine .mk 24 (by decide +kernel) ?_ | refine .mk 25 (by decide +kernel) ?_ | refine .mk 26 (by decide +kernel) ?_ | refine .mk 27 (by decide +kernel) ?_ | refine .mk 28 (by decide +kernel) ?_ | refine .mk 29 (by decide +kernel) ?_ | refine .mk 30 (by decide +kernel) ?_ | refine .mk 31 (by decide +kernel) ?_ | refine .mk 32 (by decide +kernel) ?_ | refine .mk 33 (by decide +kernel) ?_ | refine .mk 34 (by decide +kernel) ?_ | refine .mk 35 (by decide +kernel) ?_ | refine .mk 36 (by decide +kernel) ?_ | refine .mk 37 (by decide +kernel) ?_ | refine .mk 38 (by decide +kernel) ?_ | refine .mk 39 (by decide +kernel) ?_ | refine .mk 40 (by decide +kernel) ?_ | refine .mk 41 (by decide +kernel) ?_); (conv => whnf))
      | (refine HOLD.mk (by first | exact trivial | exact ⟨⟨rfl, rfl⟩, trivial⟩ | exact ⟨⟨rfl, rfl⟩, ⟨rfl, rfl⟩, trivial⟩) ?_; (conv => whnf))
      | (refine CALL0.cutBy lvInflows _ _ _ _ _ (leL_refl _) (hA ..) rfl ?_; conv => whnf)
      | (refine CALL0.mk _ _ _ _ _ (leL_refl _) (hA ..) rfl ?_; conv => whnf)
      | (refine CALLQ.mk _ _ _ (leL_refl _) (hA ..) rfl ?_; conv => whnf)
      | (refine CALL0.cutBy lvInflows _ _ _ _ _ (leL_refl _) (hS ..) rfl ?_; conv => whnf)
      | (refine CALL0.mk _ _ _ _ _ (leL_refl _) (hS ..) rfl ?_; conv => whnf)
      | (refine CALLQ.mk _ _ _ (leL_refl _) (hS ..) rfl ?_; conv => whnf)
      | (refine CALL0.cutBy lvInflows _ _ _ _ _ (leL_refl _) (hb ..) rfl ?_; conv => whnf)
      | (refine CALL0.mk _ _ _ _ _ (leL_refl _) (hb ..) rfl ?_; conv => whnf)
      | (refine CALLQ.mk _ _ _ (leL_refl _) (hb ..) rfl ?_; conv => whnf)
      | (refine CALL0.cutBy lvInflows _ _ _ _ _ (leL_refl _) (hI ..) rfl ?_; conv => whnf)
      | (refine CALL0.mk _ _ _ _ _ (leL_refl _) (hI ..) rfl ?_; conv => whnf)
      | (refine CALLQ.mk _ _ _ (leL_refl _) (hI ..) rfl ?_; conv => whnf)
      | (refine CALL0.cutBy lvInflows _ _ _ _ _ (leL_refl _) (hC ..) rfl ?_; conv => whnf)
      | (refine CALL0.mk _ _ _ _ _ (leL_refl _) (hC ..) rfl ?_; conv => whnf)
      | (refine CALLQ.mk _ _ _ (leL_refl _) (hC ..) rfl ?_; conv => whnf)
      | (refine CALL0.cutBy lvInflows _ _ _ _ _ (leL_refl _) (hB ..) rfl ?_; conv => whnf)
      | (refine CALL0.mk _ _ _ _ _ (leL_refl _) (hB ..) rfl ?_; conv => whnf)
      | (refine CALLQ.mk _ _ _ (leL_refl _) (hB ..) rfl ?_; conv => whnf)
      | (refine CALL0.cutBy lvInflows _ _ _ _ _ (leL_refl _) (hR2 ..) rfl ?_; conv => whnf)
      | (refine CALL0.mk _ _ _ _ _ (leL_refl _) (hR2 ..) rfl ?_; conv => whnf)
      | (refine CALLQ.mk _ _ _ (leL_refl _) (hR2 ..) rfl ?_; conv => whnf)
      | (refine CALL0.cutBy lvInflows _ _ _ _ _ (leL_refl _) (c_rCheckInduction ..) rfl ?_; conv => whnf)
      | (refine CALL0.mk _ _ _ _ _ (leL_refl _) (c_rCheckInduction ..) rfl ?_; conv => whnf)
      | (refine CALLQ.mk _ _ _ (leL_refl _) (c_rCheckInduction ..) rfl ?_; conv => whnf)
      | (refine CALL0.cutBy lvInflows _ _ _ _ _ (leL_refl _) (c_CheckRange ..) rfl ?_; conv => whnf)
      | (refine CALL0.mk _ _ _ _ _ (leL_refl _) (c_CheckRange ..) rfl ?_; conv => whnf)
      | (refine CALLQ.mk _ _ _ (leL_refl _) (c_CheckRange ..) rfl ?_; conv => whnf)
      | (refine CALL0.cutBy lvInflows _ _ _ _ _ (leL_refl _) (hf1 ..) rfl ?_; conv => whnf)
      | (refine CALL0.mk _ _ _ _ _ (leL_refl _) (hf1 ..) rfl ?_; conv => whnf)
      | (refine CALLQ.mk _ _ _ (leL_refl _) (hf1 ..) rfl ?_; conv => whnf)
      | (refine CALL0.cutBy lvInflows _ _ _ _ _ (leL_refl _) (hf2 ..) rfl ?_; conv => whnf)
      | (refine CALL0.mk _ _ _ _ _ (leL_refl _) (hf2 ..) rfl ?_; conv => whnf)
      | (refine CALLQ.mk _ _ _ (leL_refl _) (hf2 ..) rfl ?_; conv => whnf)
    split
    · rename_i h
      exact absurd h (by simp [zA])
    rename_i hN
    clear hN
    conv => whnf
    by_cases zB : B = 0
    · obtain ⟨r0, r1, ok, b0, b1⟩ := k2 zB
      have hC2 := fun up => c_rClass (gl := gl) up b f ring.toNat ok x (by omega) b1
      split
      rotate_left
      · rename_i h
        exact absurd h (by simp [zB])
      conv => whnf
      first
        | refine .mk 0 (by decide +kernel) ?_
        | refine .mk 1 (by decide +kernel) ?_
        | refine .mk 2 (by decide +kernel) ?_
        | refine .mk 3 (by decide +kernel) ?_
        | refine .mk 4 (by decide +kernel) ?_
        | refine .mk 5 (by decide +kernel) ?_
        | refine .mk 6 (by decide +kernel) ?_
        | refine .mk 7 (by decide +kernel) ?_
        | refine .mk 8 (by decide +kernel) ?_
        | refine .mk 9 (by decide +kernel) ?_
        | refine .mk 10 (by decide +kernel) ?_
        | refine .mk 11 (by decide +kernel) ?_
        | refine .mk 12 (by decide +kernel) ?_
        | refine .mk 13 (by decide +kernel) ?_
        | refine .mk 14 (by decide +kernel) ?_
        | refine .mk 15 (by decide +kernel) ?_
        | refine .mk 16 (by decide +kernel) ?_
        | refine .mk 17 (by decide +kernel) ?_
        | refine .mk 18 (by decide +kernel) ?_
        | refine .mk 19 (by decide +kernel) ?_
        | refine .mk 20 (by decide +kernel) ?_
        | refine .mk 21 (by decide +kernel) ?_
        | refine .mk 22 (by decide +kernel) ?_
        | refine .mk 23 (by decide +kernel) ?_
        | refine .mk 24 (by decide +kernel) ?_
        | refine .mk 25 (by decide +kernel) ?_
        | refine .mk 26 (by decide +kernel) ?_
        | refine .mk 27 (by decide +kernel) ?_
        | refine .mk 28 (by decide +kernel) ?_
        | refine .mk 29 (by decide +kernel) ?_
        | refine .mk 30 (by decide +kernel) ?_
        | refine .mk 31 (by decide +kernel) ?_
        | refine .mk 32 (by decide +kernel) ?_
        | refine .mk 33 (by decide +kernel) ?_
        | refine .mk 34 (by decide +kernel) ?_
        | refine .mk 35 (by decide +kernel) ?_
        | refine .mk 36 (by decide +kernel) ?_
        | refine .mk 37 (by decide +kernel) ?_
        | refine .mk 38 (by decide +kernel) ?_
        | refine .mk 39 (by decide +kernel) ?_
        | refine .mk 40 (by decide +kernel) ?_
        | refine .mk 41 (by decide +kernel) ?_
      conv => whnf
      split
      rotate_left
      · rename_i h
        have h' : decide (0 ≤ ring) = false := h
        simp at h' <;> omega
      conv => whnf
      split
      rotate_left
      · rename_i h
        have h' : decide (ring < b.nr) = false := h
        simp at h' <;> omega
      conv => whnf
      first | refine CALLQ.mk _ _ _ (leL_refl _) (hC2 _) rfl ?_ | refine CALL0.cutBy lvInflows _ _ _ _ _ (leL_refl _) (hC2 _) rfl ?_ | refine CALL0.mk _ _ _ _ _ (leL_refl _) (hC2 _) rfl ?_
      conv => whnf
      refine CALL0.cutBy lvInflows _ _ _ _ _ (leL_refl _) (c_number _ _ _ _ _ rfl (fun h => zE_ne h) (fun h => by first | exact absurd h zA | (rw [h]; rfl))) rfl ?_
      conv => whnf
      refine CALL0.cutBy lvInflows _ _ _ _ _ (leL_refl _) (c_number _ _ _ _ _ rfl (fun h => zE_ne h) (fun h => by first | exact absurd h zB | (rw [h]; rfl))) rfl ?_
      conv => whnf
      refine CALL0.cutBy lvInflows _ _ _ _ _ (leL_refl _) (c_number _ _ _ _ _ rfl (fun h => zE_ne h) (fun h => by first | exact absurd h zA | (rw [h]; rfl))) rfl ?_
      conv => whnf
      exact ⟨rfl, rfl⟩
    · split
      · rename_i h
        exact absurd h (by simp [zB])
      rename_i hN
      clear hN
      conv => whnf
      refine CALL0.cutBy lvInflows _ _ _ _ _ (leL_refl _) (c_number _ _ _ _ _ rfl (fun h => zE_ne h) (fun h => by first | exact absurd h zA | (rw [h]; rfl))) rfl ?_
      conv => whnf
      refine CALL0.cutBy lvInflows _ _ _ _ _ (leL_refl _) (c_number _ _ _ _ _ rfl (fun h => zE_ne h) (fun h => by first | exact absurd h zB | (rw [h]; rfl))) rfl ?_
      conv => whnf
      refine CALL0.cutBy lvInflows _ _ _ _ _ (leL_refl _) (c_number _ _ _ _ _ rfl (fun h => zE_ne h) (fun h => by first | exact absurd h zA | (rw [h]; rfl))) rfl ?_
      conv => whnf
      exact ⟨rfl, rfl⟩

theorem c_RotorInflows (up : List Ces) (hr : gl g_rotor_roots = rootsI) (hp : gl g_internal_strconv_uint64pow10 = powI) (b : Bl) (f : Fl) (ring a d x D : Int) :
    Cs gl n_nacellelaw03_RotorInflows up [b.iv, f.iv, .agg [.int .i64 ring, .int .i64 a, .int .i64 d, .int .i64 x, .int .i64 D]] (.bool true) up := by
  cases hs : b.short with
  | true => exact inflows_yes up hr hp b f hs ring a d x D
  | false => exact inflows_no up hr hp b f hs ring a d x D
end Go.Proofs.YtllmejkmogepjaaDoor.Ix

/-
  Lf1: RotorForces: the law.
-/
namespace Go.Proofs.YtllmejkmogepjaaDoor.Ix
open Go.Proofs
set_option maxRecDepth 100000
set_option linter.unusedVariables false
set_option linter.unusedSimpArgs false
variable {gl : Nat → IV}

def lightB (b : Bl) (f : Fl) : Bool := b.short && (b.err != 0 || f.err != 0 || lightS b f)

theorem c_light (up : List Ces) (b : Bl) (f : Fl) : Cs gl n_nacellelaw03_light up [b.iv, f.iv] (.bool (lightB b f)) up := by
  refine mk h_nacellelaw03_light rfl rfl ?_
  have hS := fun up => c_Short (gl := gl) up b
  have hE := fun up => c_rCheckBlade (gl := gl) up b
  have hF := fun up => c_rCheckFlow (gl := gl) up f.w f.s f.p
  unfold lightB
  cases hs : b.short with
  | false =>
    rw [hs] at hS
    conv => whnf
    repeat first
      | (show DRAW _ _ _ _ _; (first | refine .mk 0 (by decide +kernel) ?_ | refine .mk 1 (by decide +kernel) ?_ | refine .mk 2 (by decide +kernel) ?_ | refine .mk 3 (by decide +kernel) ?_ | refine .mk 4 (by decide +kernel) ?_ | refine .mk 5 (by decide +kernel) ?_ | refine .mk 6 (by decide +kernel) ?_ | refine .mk 7 (by decide +kernel) ?_ | refine .mk 8 (by decide +kernel) ?_ | refine .mk 9 (by decide +kernel) ?_ | refine .mk 10 (by decide +kernel) ?_ | refine .mk 11 (by decide +kernel) ?_ | refine .mk 12 (by decide +kernel) ?_ | refine .mk 13 (by decide +kernel) ?_ | refine .mk 14 (by decide +kernel) ?_ | refine .mk 15 (by decide +kernel) ?_ | refine .mk 16 (by decide +kernel) ?_ | refine .mk 17 (by decide +kernel) ?_ | refine .mk 18 (by decide +kernel) ?_ | refine .mk 19 (by decide +kernel) ?_ | refine .mk 20 (by decide +kernel) ?_ | refine .mk 21 (by decide +kernel) ?_ | refine .mk 22 (by decide +kernel) ?_ | refine .mk 23 (by decide +kernel) ?_ | refine .mk 24 (by decide +kernel) ?_ | refine .mk 25 (by decide +kernel) ?_ | refine .mk 26 (by decide +kernel) ?_ | refine .mk 27 (by decide +kernel) ?_ | refine .mk 28 (by decide +kernel) ?_ | refine .mk 29 (by decide +kernel) ?_ | refine .mk 30 (by decide +kernel) ?_ | refine .mk 31 (by decide +kernel) ?_ | refine .mk 32 (by decide +kernel) ?_ | refine .mk 33 (by decide +kernel) ?_ | refine .mk 34 (by decide +kernel) ?_ | refine .mk 35 (by decide +kernel) ?_ | refine .mk 36 (by decide +kernel) ?_ | refine .mk 37 (by decide +kernel) ?_ | refine .mk 38 (by decide +kernel) ?_ | refine .mk 39 (by decide +kernel) ?_ | refine .mk 40 (by decide +kernel) ?_ | refine .mk 41 (by decide +kernel) ?_); (conv => whnf))
      | (refine HOLD.mk (by first | exact trivial | exact ⟨⟨rfl, rfl⟩, trivial⟩ | exact ⟨⟨rfl, rfl⟩, ⟨rfl, rfl⟩, trivial⟩) ?_; (conv => whnf))
      | (refine CALL0.mk _ _ _ _ _ (leL_refl _) (hS ..) rfl ?_; conv => whnf)
      | (refine CALLQ.mk _ _ _ (leL_refl _) (hS ..) rfl ?_; conv => whnf)
    exact ⟨rfl, rfl⟩
  | true =>
    rw [hs] at hS
    by_cases e1 : b.err = 0
    · by_cases e2 : f.err = 0
      · have hL := fun up => c_Light (gl := gl) up b f e1 e2
        rw [e1] at hE
        have e2' : flowS f.w f.s f.p = 0 := e2
        rw [e2'] at hF
        conv => whnf
        repeat first
          | (show DRAW _ _ _ _ _; (first | refine .mk 0 (by decide +kernel) ?_ | refine .mk 1 (by decide +kernel) ?_ | refine .mk 2 (by decide +kernel) ?_ | refine .mk 3 (by decide +kernel) ?_ | refine .mk 4 (by decide +kernel) ?_ | refine .mk 5 (by decide +kernel) ?_ | refine .mk 6 (by decide +kernel) ?_ | refine .mk 7 (by decide +kernel) ?_ | refine .mk 8 (by decide +kernel) ?_ | refine .mk 9 (by decide +kernel) ?_ | refine .mk 10 (by decide +kernel) ?_ | refine .mk 11 (by decide +kernel) ?_ | refine .mk 12 (by decide +kernel) ?_ | refine .mk 13 (by decide +kernel) ?_ | refine .mk 14 (by decide +kernel) ?_ | refine .mk 15 (by decide +kernel) ?_ | refine .mk 16 (by decide +kernel) ?_ | refine .mk 17 (by decide +kernel) ?_ | refine .mk 18 (by decide +kernel) ?_ | refine .mk 19 (by decide +kernel) ?_ | refine .mk 20 (by decide +kernel) ?_ | refine .mk 21 (by decide +kernel) ?_ | refine .mk 22 (by decide +kernel) ?_ | refine .mk 23 (by decide +kernel) ?_ | refine .mk 24 (by decide +kernel) ?_ | refine .mk 25 (by decide +kernel) ?_ | refine .mk 26 (by decide +kernel) ?_ | refine .mk 27 (by decide +kernel) ?_ | refine .mk 28 (by decide +kernel) ?_ | refine .mk 29 (by decide +kernel) ?_ | refine .mk 30 (by decide +kernel) ?_ | refine .mk 31 (by decide +kernel) ?_ | refine .mk 32 (by decide +kernel) ?_ | refine .mk 33 (by decide +kernel) ?_ | refine .mk 34 (by decide +kernel) ?_ | refine .mk 35 (by decide +kernel) ?_ | refine .mk 36 (by decide +kernel) ?_ | refine .mk 37 (by decide +kernel) ?_ | refine .mk 38 (by decide +kernel) ?_ | refine .mk 39 (by decide +kernel) ?_ | refine .mk 40 (by decide +kernel) ?_ | refine .mk 41 (by decide +kernel) ?_); (conv => whnf))
          | (refine HOLD.mk (by first | exact trivial | exact ⟨⟨rfl, rfl⟩, trivial⟩ | exact ⟨⟨rfl, rfl⟩, ⟨rfl, rfl⟩, trivial⟩) ?_; (conv => whnf))
          | (refine CALL0.mk _ _ _ _ _ (leL_refl _) (hS ..) rfl ?_; conv => whnf)
          | (refine CALLQ.mk _ _ _ (leL_refl _) (hS ..) rfl ?_; conv => whnf)
          | (refine CALL0.mk _ _ _ _ _ (leL_refl _) (hE ..) rfl ?_; conv => whnf)
          | (refine CALLQ.mk _ _ _ (leL_refl _) (hE ..) rfl ?_; conv => whnf)
          | (refine CALL0.mk _ _ _ _ _ (leL_refl _) (hF ..) rfl ?_; conv => whnf)
          | (refine CALLQ.mk _ _ _ (leL_refl _) (hF ..) rfl ?_; conv => whnf)
          | (refine CALL0.mk _ _ _ _ _ (leL_refl _) (hL ..) rfl ?_; conv => whnf)
          | (refine CALLQ.mk _ _ _ (leL_refl _) (hL ..) rfl ?_; conv => whnf)
        refine ⟨?_, rfl⟩
        rw [e1, e2]; rfl
      · have q : (f.err != 0) = true := by simpa using e2
        rw [e1] at hE
        conv => whnf
        repeat first
          | (show DRAW _ _ _ _ _; (first | refine .mk 0 (by decide +kernel) ?_ | refine .mk 1 (by decide +kernel) ?_ | refine .mk 2 (by decide +kernel) ?_ | refine .mk 3 (by decide +kernel) ?_ | refine .mk 4 (by decide +kernel) ?_ | refine .mk 5 (by decide +kernel) ?_ | refine .mk 6 (by decide +kernel) ?_ | refine .mk 7 (by decide +kernel) ?_ | refine .mk 8 (by decide +kernel) ?_ | refine .mk 9 (by decide +kernel) ?_ | refine .mk 10 (by decide +kernel) ?_ | refine .mk 11 (by decide +kernel) ?_ | refine .mk 12 (by decide +kernel) ?_ | refine .mk 13 (by decide +kernel) ?_ | refine .mk 14 (by decide +kernel) ?_ | refine .mk 15 (by decide +kernel) ?_ | refine .mk 16 (by decide +kernel) ?_ | refine .mk 17 (by decide +kernel) ?_ | refine .mk 18 (by decide +kernel) ?_ | refine .mk 19 (by decide +kernel) ?_ | refine .mk 20 (by decide +kernel) ?_ | refine .mk 21 (by decide +kernel) ?_ | refine .mk 22 (by decide +kernel) ?_ | refine .mk 23 (by decide +kernel) ?_ | refine .mk 24 (by decide +kernel) ?_ | refine .mk 25 (by decide +kernel) ?_ | refine .mk 26 (by decide +kernel) ?_ | refine .mk 27 (by decide +kernel) ?_ | refine .mk 28 (by decide +kernel) ?_ | refine .mk 29 (by decide +kernel) ?_ | refine .mk 30 (by decide +kernel) ?_ | refine .mk 31 (by decide +kernel) ?_ | refine .mk 32 (by decide +kernel) ?_ | refine .mk 33 (by decide +kernel) ?_ | refine .mk 34 (by decide +kernel) ?_ | refine .mk 35 (by decide +kernel) ?_ | refine .mk 36 (by decide +kernel) ?_ | refine .mk 37 (by decide +kernel) ?_ | refine .mk 38 (by decide +kernel) ?_ | refine .mk 39 (by decide +kernel) ?_ | refine .mk 40 (by decide +kernel) ?_ | refine .mk 41 (by decide +kernel) ?_); (conv => whnf))
          | (refine HOLD.mk (by first | exact trivial | exact ⟨⟨rfl, rfl⟩, trivial⟩ | exact ⟨⟨rfl, rfl⟩, ⟨rfl, rfl⟩, trivial⟩) ?_; (conv => whnf))
          | (refine CALL0.mk _ _ _ _ _ (leL_refl _) (hS ..) rfl ?_; conv => whnf)
          | (refine CALLQ.mk _ _ _ (leL_refl _) (hS ..) rfl ?_; conv => whnf)
          | (refine CALL0.mk _ _ _ _ _ (leL_refl _) (hE ..) rfl ?_; conv => whnf)
          | (refine CALLQ.mk _ _ _ (leL_refl _) (hE ..) rfl ?_; conv => whnf)
          | (refine CALL0.mk _ _ _ _ _ (leL_refl _) (hF ..) rfl ?_; conv => whnf)
          | (refine CALLQ.mk _ _ _ (leL_refl _) (hF ..) rfl ?_; conv => whnf)
        split
        rotate_left
        · rename_i h
          exact Bool.noConfusion ((q).symm.trans h)
        rename_i hN
        clear hN
        conv => whnf
        repeat first
          | (show DRAW _ _ _ _ _; (first | refine .mk 0 (by decide +kernel) ?_ | refine .mk 1 (by decide +kernel) ?_ | refine .mk 2 (by decide +kernel) ?_ | refine .mk 3 (by decide +kernel) ?_ | refine .mk 4 (by decide +kernel) ?_ | refine .mk 5 (by decide +kernel) ?_ | refine .mk 6 (by decide +kernel) ?_ | refine .mk 7 (by decide +kernel) ?_ | refine .mk 8 (by decide +kernel) ?_ | refine .mk 9 (by decide +kernel) ?_ | refine .mk 10 (by decide +kernel) ?_ | refine .mk 11 (by decide +kernel) ?_ | refine .mk 12 (by decide +kernel) ?_ | refine .mk 13 (by decide +kernel) ?_ | refine .mk 14 (by decide +kernel) ?_ | refine .mk 15 (by decide +kernel) ?_ | refine .mk 16 (by decide +kernel) ?_ | refine .mk 17 (by decide +kernel) ?_ | refine .mk 18 (by decide +kernel) ?_ | refine .mk 19 (by decide +kernel) ?_ | refine .mk 20 (by decide +kernel) ?_ | refine .mk 21 (by decide +kernel) ?_ | refine .mk 22 (by decide +kernel) ?_ | refine .mk 23 (by decide +kernel) ?_ | refine .mk 24 (by decide +kernel) ?_ | refine .mk 25 (by decide +kernel) ?_ | refine .mk 26 (by decide +kernel) ?_ | refine .mk 27 (by decide +kernel) ?_ | refine .mk 28 (by decide +kernel) ?_ | refine .mk 29 (by decide +kernel) ?_ | refine .mk 30 (by decide +kernel) ?_ | refine .mk 31 (by decide +kernel) ?_ | refine .mk 32 (by decide +kernel) ?_ | refine .mk 33 (by decide +kernel) ?_ | refine .mk 34 (by decide +kernel) ?_ | refine .mk 35 (by decide +kernel) ?_ | refine .mk 36 (by decide +kernel) ?_ | refine .mk 37 (by decide +kernel) ?_ | refine .mk 38 (by decide +kernel) ?_ | refine .mk 39 (by decide +kernel) ?_ | refine .mk 40 (by decide +kernel) ?_ | refine .mk 41 (by decide +kernel) ?_); (conv => whnf))
          | (refine HOLD.mk (by first | exact trivial | exact ⟨⟨rfl, rfl⟩, trivial⟩ | exact ⟨⟨rfl, rfl⟩, ⟨rfl, rfl⟩, trivial⟩) ?_; (conv => whnf))
          | (refine CALL0.mk _ _ _ _ _ (leL_refl _) (hE ..) rfl ?_; conv => whnf)
          | (refine CALLQ.mk _ _ _ (leL_refl _) (hE ..) rfl ?_; conv => whnf)
        refine ⟨?_, rfl⟩
        rw [e1, q]; rfl
    · have q : (b.err != 0) = true := by simpa using e1
      conv => whnf
      repeat first
        | (show DRAW _ _ _ _ _; (first | refine .mk 0 (by decide +kernel) ?_ | refine .mk 1 (by decide +kernel) ?_ | refine .mk 2 (by decide +kernel) ?_ | refine .mk 3 (by decide +kernel) ?_ | refine .mk 4 (by decide +kernel) ?_ | refine .mk 5 (by decide +kernel) ?_ | refine .mk 6 (by decide +kernel) ?_ | refine .mk 7 (by decide +kernel) ?_ | refine .mk 8 (by decide +kernel) ?_ | refine .mk 9 (by decide +kernel) ?_ | refine .mk 10 (by decide +kernel) ?_ | refine .mk 11 (by decide +kernel) ?_ | refine .mk 12 (by decide +kernel) ?_ | refine .mk 13 (by decide +kernel) ?_ | refine .mk 14 (by decide +kernel) ?_ | refine .mk 15 (by decide +kernel) ?_ | refine .mk 16 (by decide +kernel) ?_ | refine .mk 17 (by decide +kernel) ?_ | refine .mk 18 (by decide +kernel) ?_ | refine .mk 19 (by decide +kernel) ?_ | refine .mk 20 (by decide +kernel) ?_ | refine .mk 21 (by decide +kernel) ?_ | refine .mk 22 (by decide +kernel) ?_ | refine .mk 23 (by decide +kernel) ?_ | refine .mk 24 (by decide +kernel) ?_ | refine .mk 25 (by decide +kernel) ?_ | refine .mk 26 (by decide +kernel) ?_ | refine .mk 27 (by decide +kernel) ?_ | refine .mk 28 (by decide +kernel) ?_ | refine .mk 29 (by decide +kernel) ?_ | refine .mk 30 (by decide +kernel) ?_ | refine .mk 31 (by decide +kernel) ?_ | refine .mk 32 (by decide +kernel) ?_ | refine .mk 33 (by decide +kernel) ?_ | refine .mk 34 (by decide +kernel) ?_ | refine .mk 35 (by decide +kernel) ?_ | refine .mk 36 (by decide +kernel) ?_ | refine .mk 37 (by decide +kernel) ?_ | refine .mk 38 (by decide +kernel) ?_ | refine .mk 39 (by decide +kernel) ?_ | refine .mk 40 (by decide +kernel) ?_ | refine .mk 41 (by decide +kernel) ?_); (conv => whnf))
        | (refine HOLD.mk (by first | exact trivial | exact ⟨⟨rfl, rfl⟩, trivial⟩ | exact ⟨⟨rfl, rfl⟩, ⟨rfl, rfl⟩, trivial⟩) ?_; (conv => whnf))
        | (refine CALL0.mk _ _ _ _ _ (leL_refl _) (hS ..) rfl ?_; conv => whnf)
        | (refine CALLQ.mk _ _ _ (leL_refl _) (hS ..) rfl ?_; conv => whnf)
        | (refine CALL0.mk _ _ _ _ _ (leL_refl _) (hE ..) rfl ?_; conv => whnf)
        | (refine CALLQ.mk _ _ _ (leL_refl _) (hE ..) rfl ?_; conv => whnf)
      split
      rotate_left
      · rename_i h
        exact Bool.noConfusion ((q).symm.trans h)
      rename_i hN
      clear hN
      conv => whnf
      repeat first
        | (show DRAW _ _ _ _ _; (first | refine .mk 0 (by decide +kernel) ?_ | refine .mk 1 (by decide +kernel) ?_ | refine .mk 2 (by decide +kernel) ?_ | refine .mk 3 (by decide +kernel) ?_ | refine .mk 4 (by decide +kernel) ?_ | refine .mk 5 (by decide +kernel) ?_ | refine .mk 6 (by decide +kernel) ?_ | refine .mk 7 (by decide +kernel) ?_ | refine .mk 8 (by decide +kernel) ?_ | refine .mk 9 (by decide +kernel) ?_ | refine .mk 10 (by decide +kernel) ?_ | refine .mk 11 (by decide +kernel) ?_ | refine .mk 12 (by decide +kernel) ?_ | refine .mk 13 (by decide +kernel) ?_ | refine .mk 14 (by decide +kernel) ?_ | refine .mk 15 (by decide +kernel) ?_ | refine .mk 16 (by decide +kernel) ?_ | refine .mk 17 (by decide +kernel) ?_ | refine .mk 18 (by decide +kernel) ?_ | refine .mk 19 (by decide +kernel) ?_ | refine .mk 20 (by decide +kernel) ?_ | refine .mk 21 (by decide +kernel) ?_ | refine .mk 22 (by decide +kernel) ?_ | refine .mk 23 (by decide +kernel) ?_ | refine .mk 24 (by decide +kernel) ?_ | refine .mk 25 (by decide +kernel) ?_ | refine .mk 26 (by decide +kernel) ?_ | refine .mk 27 (by decide +kernel) ?_ | refine .mk 28 (by decide +kernel) ?_ | refine .mk 29 (by decide +kernel) ?_ | refine .mk 30 (by decide +kernel) ?_ | refine .mk 31 (by decide +kernel) ?_ | refine .mk 32 (by decide +kernel) ?_ | refine .mk 33 (by decide +kernel) ?_ | refine .mk 34 (by decide +kernel) ?_ | refine .mk 35 (by decide +kernel) ?_ | refine .mk 36 (by decide +kernel) ?_ | refine .mk 37 (by decide +kernel) ?_ | refine .mk 38 (by decide +kernel) ?_ | refine .mk 39 (by decide +kernel) ?_ | refine .mk 40 (by decide +kernel) ?_ | refine .mk 41 (by decide +kernel) ?_); (conv => whnf))
        | (refine HOLD.mk (by first | exact trivial | exact ⟨⟨rfl, rfl⟩, trivial⟩ | exact ⟨⟨rfl, rfl⟩, ⟨rfl, rfl⟩, trivial⟩) ?_; (conv => whnf))
        | (refine CALL0.mk _ _ _ _ _ (leL_refl _) (hE ..) rfl ?_; conv => whnf)
        | (refine CALLQ.mk _ _ _ (leL_refl _) (hE ..) rfl ?_; conv => whnf)
      refine ⟨?_, rfl⟩
      rw [q]; rfl

/-- What is read behind each call. -/
def lvForces : List (Nat × List Nat) := [(18, [2, 3, 4, 6, 7, 8, 9, 10, 11, 18]), (23, [2, 3, 4, 6, 7, 8, 9, 10, 11, 20, 23]), (26, [2, 3, 4, 6, 7, 8, 9, 10, 11, 26]), (29, [2, 3, 4, 6, 7, 8, 9, 10, 11, 29]), (32, [2, 3, 4, 6, 7, 8, 9, 10, 11, 32]), (37, [2, 3, 4, 6, 7, 8, 9, 10, 11, 37]), (40, [2, 3, 4, 6, 7, 8, 9, 10, 11, 40]), (45, [2, 3, 4, 6, 7, 8, 9, 10, 11, 45]), (48, [2, 3, 4, 6, 7, 8, 9, 10, 11, 48]), (52, [2, 3, 4, 6, 7, 8, 9, 10, 11, 12, 52]), (54, [2, 3, 4, 6, 7, 8, 9, 10, 11, 12, 52, 54]), (56, [2, 3, 4, 6, 7, 8, 9, 10, 11, 12, 52, 54, 56]), (58, [2, 3, 4, 6, 7, 8, 9, 10, 11, 12, 58]), (65, [2, 3, 4, 6, 7, 8, 9, 10, 11, 12, 13, 14, 15, 16, 17, 65]), (75, [6, 7, 8, 9, 10, 11, 12, 13, 14, 15, 16, 75]), (82, [6, 9, 10, 11, 12, 13, 15, 16, 82]), (88, [6, 11, 12, 13, 16, 83, 88]), (98, [6, 95, 98])]
end Go.Proofs.YtllmejkmogepjaaDoor.Ix

/-
  Rw1: the contract of 'told', its first lists handed through as they are; the cells of a row that is written in.
-/
namespace Go.Proofs.YtllmejkmogepjaaDoor.Ix
open Go.Proofs
set_option maxRecDepth 100000
set_option linter.unusedVariables false
set_option linter.unusedSimpArgs false
variable {gl : Nat → IV}

theorem c_told (up : List Ces) (n : Nat) (hn : n ≤ 1000000) (r1 r2 r3 r4 : Nat → Int) (v1 v2 : Value) :
    Cs gl n_nacellelaw03_told up [.agg [.lit v1, .lit v2, .lst none 4 n fun i => [.int .i64 (r1 i), .int .i64 (r2 i), .int .i64 (r3 i), .int .i64 (r4 i)]]]
      (.agg [.lit v1, .lit v2, .lst (some 20) 4 n fun i => [.int .i64 (r1 i), .int .i64 (r2 i), .int .i64 (r3 i), .int .i64 (r4 i)]]) up := by
  refine mk h_nacellelaw03_told rfl rfl ?_
  conv => whnf
  let R : Nat → List IV := fun i => [.int .i64 (r1 i), .int .i64 (r2 i), .int .i64 (r3 i), .int .i64 (r4 i)]
  refine .mk (α := {k : Nat // k ≤ n}) (fun k => ⟨[(12, .int .i64 k.1), (11, .int .i64 n), (10, .lst none 4 n R), (2, .ptr 0 2 0), (3, .ptr 0 3 0)],
    [(3, [.lit v1, .lit v2, .lst (some 20) 4 k.1 R]), (2, [.nilS, .nilS, .nilS])], up⟩) (fun k => n - k.1) ⟨0, Nat.zero_le _⟩ ⟨?_, ?_, rfl, rfl⟩ ?_
  · exact ⟨leV_refl _, leV_refl _, leV_refl _, leV_refl _, leV_refl _, trivial⟩
  · exact ⟨⟨leV_refl _, leV_refl _, rfl, trivial⟩, leL_refl _, trivial⟩
  · rintro ⟨k, hk⟩
    have hw : w64 ((k : Int) + 1) = ((k + 1 : Nat) : Int) := by rw [w64, wrap_in] <;> omega
    by_cases hlt : k < n
    · have q : decide ((k : Int) < n) = true := decide_eq_true (by omega)
      conv => whnf
      split
      rotate_left
      · rename_i h
        exact Bool.noConfusion ((q).symm.trans h)
      rename_i hN
      clear hN
      conv => whnf
      split
      rotate_left
      · rename_i h
        have h' : decide ((k : Int) < n) = false := h
        simp at h' <;> omega
      conv => whnf
      split
      rotate_left
      · rename_i h
        have h' : decide (k + 1 ≤ 1073741824) = false := h
        simp at h' <;> omega
      conv => whnf
      refine ⟨⟨k + 1, hlt⟩, ⟨⟨leV_int hw, leV_refl _, leV_refl _, leV_refl _, leV_refl _, trivial⟩, ⟨⟨leV_refl _, leV_refl _, ⟨.inr rfl, rfl, rfl, fun j hj => ?_⟩, trivial⟩, leL_refl _, trivial⟩, rfl, rfl⟩, (by show n - (k + 1) < n - k; omega)⟩
      show (if j < k then R j else litF 4 (R k) (j - k)) = R j
      split
      · rfl
      · have : j = k := by have : j < k + 1 := hj; omega
        subst this
        rw [Nat.sub_self]
        rfl
    · have q : decide ((k : Int) < n) = false := decide_eq_false (by omega)
      have : k = n := by omega
      subst this
      conv => whnf
      split
      · rename_i h
        exact Bool.noConfusion ((q).symm.trans h)
      rename_i hN
      clear hN
      conv => whnf
      exact ⟨rfl, rfl⟩
end Go.Proofs.YtllmejkmogepjaaDoor.Ix

/-
  Rz4: contracts of the reference's pitches: CheckPitches, pitched, Best, Limit.
-/
namespace Go.Proofs.YtllmejkmogepjaaDoor.Ix
open Go.Proofs
set_option maxRecDepth 100000
set_option linter.unusedVariables false
set_option linter.unusedSimpArgs false
variable {gl : Nat → IV}

theorem c_rCheckPitches (up : List Ces) (x y : Int) : Cs gl n_nacelleref03_CheckPitches up [.int .i64 x, .int .i64 y] (.int .i64 (pitchErr x y)) up := by
  refine mk h_nacelleref03_CheckPitches rfl rfl ?_
  have hf := fun up => c_rfl2 (gl := gl) up (withinS x (-64) 64) (withinS y (-64) 64)
  have e : pitchErr x y = bif orE (withinS x (-64) 64) (withinS y (-64) 64) != 0 then orE (withinS x (-64) 64) (withinS y (-64) 64) else bif decide (y < x) then 11 else 0 := by
    unfold pitchErr
    rw [← orE_assoc]; rfl
  rw [e]
  obtain ⟨E, hE⟩ : ∃ E, E = orE (withinS x (-64) 64) (withinS y (-64) 64) := ⟨_, rfl⟩
  rw [← hE] at hf ⊢
  by_cases z : E = 0
  · rw [z] at hf ⊢
    cases q : decide (y < x) with
    | true =>
      conv => whnf
      repeat first
        | (show DRAW _ _ _ _ _; (first | refine .mk 0 (by decide +kernel) ?_ | refine .mk 1 (by decide +kernel) ?_ | refine .mk 2 (by decide +kernel) ?_ | refine .mk 3 (by decide +kernel) ?_ | refine .mk 4 (by decide +kernel) ?_ | refine .mk 5 (by decide +kernel) ?_ | refine .mk 6 (by decide +kernel) ?_ | refine .mk 7 (by decide +kernel) ?_ | refine .mk 8 (by decide +kernel) ?_ | refine .mk 9 (by decide +kernel) ?_ | refine .mk 10 (by decide +kernel) ?_ | refine .mk 11 (by decide +kernel) ?_ | refine .mk 12 (by decide +kernel) ?_ | refine .mk 13 (by decide +kernel) ?_ | refine .mk 14 (by decide +kernel) ?_ | refine .mk 15 (by decide +kernel) ?_ | refine .mk 16 (by decide +kernel) ?_ | refine .mk 17 (by decide +kernel) ?_ | refine .mk 18 (by decide +kernel) ?_ | refine .mk 19 (by decide +kernel) ?_ | refine .mk 20 (by decide +kernel) ?_ | refine .mk 21 (by decide +kernel) ?_ | refine .mk 22 (by decide +kernel) ?_ | refine .mk 23 (by decide +kernel) ?_ | refine .mk 24 (by decide +kernel) ?_ | refine .mk 25 (by decide +kernel) ?_ | refine .mk 26 (by decide +kernel) ?_ | refine .mk 27 (by decide +kernel) ?_ | refine .mk 28 (by decide +kernel) ?_ | refine .mk 29 (by decide +kernel) ?_ | refine .mk 30 (by decide +kernel) ?_ | refine .mk 31 (by decide +kernel) ?_ | refine .mk 32 (by decide +kernel) ?_ | refine .mk 33 (by decide +kernel) ?_ | refine .mk 34 (by decide +kernel) ?_ | refine .mk 35 (by decide +kernel) ?_ | refine .mk 36 (by decide +kernel) ?_ | refine .mk 37 (by decide +kernel) ?_ | refine .mk 38 (by decide +kernel) ?_ | refine .mk 39 (by decide +kernel) ?_ | refine .mk 40 (by decide +kernel) ?_ | refine .mk 41 (by decide +kernel) ?_); (conv => whnf))
        | (refine HOLD.mk (by first | exact trivial | exact ⟨⟨rfl, rfl⟩, trivial⟩ | exact ⟨⟨rfl, rfl⟩, ⟨rfl, rfl⟩, trivial⟩) ?_; (conv => whnf))
        | (refine CALL0.mk _ _ _ _ _ (leL_refl _) (c_CheckAngle ..) rfl ?_; conv => whnf)
        | (refine CALLQ.mk _ _ _ (leL_refl _) (c_CheckAngle ..) rfl ?_; conv => whnf)
        | (refine CALL0.mk _ _ _ _ _ (leL_refl _) (hf ..) rfl ?_; conv => whnf)
        | (refine CALLQ.mk _ _ _ (leL_refl _) (hf ..) rfl ?_; conv => whnf)
      split
      rotate_left
      · rename_i h
        exact Bool.noConfusion ((q).symm.trans h)
      rename_i hN
      clear hN
      conv => whnf
      exact ⟨rfl, rfl⟩
    | false =>
      conv => whnf
      repeat first
        | (show DRAW _ _ _ _ _; (first | refine .mk 0 (by decide +kernel) ?_ | refine .mk 1 (by decide +kernel) ?_ | refine .mk 2 (by decide +kernel) ?_ | refine .mk 3 (by decide +kernel) ?_ | refine .mk 4 (by decide +kernel) ?_ | refine .mk 5 (by decide +kernel) ?_ | refine .mk 6 (by decide +kernel) ?_ | refine .mk 7 (by decide +kernel) ?_ | refine .mk 8 (by decide +kernel) ?_ | refine .mk 9 (by decide +kernel) ?_ | refine .mk 10 (by decide +kernel) ?_ | refine .mk 11 (by decide +kernel) ?_ | refine .mk 12 (by decide +kernel) ?_ | refine .mk 13 (by decide +kernel) ?_ | refine .mk 14 (by decide +kernel) ?_ | refine .mk 15 (by decide +kernel) ?_ | refine .mk 16 (by decide +kernel) ?_ | refine .mk 17 (by decide +kernel) ?_ | refine .mk 18 (by decide +kernel) ?_ | refine .mk 19 (by decide +kernel) ?_ | refine .mk 20 (by decide +kernel) ?_ | refine .mk 21 (by decide +kernel) ?_ | refine .mk 22 (by decide +kernel) ?_ | refine .mk 23 (by decide +kernel) ?_ | refine .mk 24 (by decide +kernel) ?_ | refine .mk 25 (by decide +kernel) ?_ | refine .mk 26 (by decide +kernel) ?_ | refine .mk 27 (by decide +kernel) ?_ | refine .mk 28 (by decide +kernel) ?_ | refine .mk 29 (by decide +kernel) ?_ | refine .mk 30 (by decide +kernel) ?_ | refine .mk 31 (by decide +kernel) ?_ | refine .mk 32 (by decide +kernel) ?_ | refine .mk 33 (by decide +kernel) ?_ | refine .mk 34 (by decide +kernel) ?_ | refine .mk 35 (by decide +kernel) ?_ | refine .mk 36 (by decide +kernel) ?_ | refine .mk 37 (by decide +kernel) ?_ | refine .mk 38 (by decide +kernel) ?_ | refine .mk 39 (by decide +kernel) ?_ | refine .mk 40 (by decide +kernel) ?_ | refine .mk 41 (by decide +kernel) ?_); (conv => whnf))
        | (refine HOLD.mk (by first | exact trivial | exact ⟨⟨rfl, rfl⟩, trivial⟩ | exact ⟨⟨rfl, rfl⟩, ⟨rfl, rfl⟩, trivial⟩) ?_; (conv => whnf))
        | (refine CALL0.mk _ _ _ _ _ (leL_refl _) (c_CheckAngle ..) rfl ?_; conv => whnf)
        | (refine CALLQ.mk _ _ _ (leL_refl _) (c_CheckAngle ..) rfl ?_; conv => whnf)
        | (refine CALL0.mk _ _ _ _ _ (leL_refl _) (hf ..) rfl ?_; conv => whnf)
        | (refine CALLQ.mk _ _ _ (leL_refl _) (hf ..) rfl ?_; conv => whnf)
      split
      · rename_i h
        exact Bool.noConfusion ((q).symm.trans h)
      rename_i hN
      clear hN
      conv => whnf
      exact ⟨rfl, rfl⟩
  · have q : (E != 0) = true := by simpa using z
    rw [q]
    conv => whnf
    repeat first
      | (show DRAW _ _ _ _ _; (first | refine .mk 0 (by decide +kernel) ?_ | refine .mk 1 (by decide +kernel) ?_ | refine .mk 2 (by decide +kernel) ?_ | refine .mk 3 (by decide +kernel) ?_ | refine .mk 4 (by decide +kernel) ?_ | refine .mk 5 (by decide +kernel) ?_ | refine .mk 6 (by decide +kernel) ?_ | refine .mk 7 (by decide +kernel) ?_ | refine .mk 8 (by decide +kernel) ?_ | refine .mk 9 (by decide +kernel) ?_ | refine .mk 10 (by decide +kernel) ?_ | refine .mk 11 (by decide +kernel) ?_ | refine .mk 12 (by decide +kernel) ?_ | refine .mk 13 (by decide +kernel) ?_ | refine .mk 14 (by decide +kernel) ?_ | refine .mk 15 (by decide +kernel) ?_ | refine .mk 16 (by decide +kernel) ?_ | refine .mk 17 (by decide +kernel) ?_ | refine .mk 18 (by decide +kernel) ?_ | refine .mk 19 (by decide +kernel) ?_ | refine .mk 20 (by decide +kernel) ?_ | refine .mk 21 (by decide +kernel) ?_ | refine .mk 22 (by decide +kernel) ?_ | refine .mk 23 (by decide +kernel) ?_ | refine .mk 24 (by decide +kernel) ?_ | refine .mk 25 (by decide +kernel) ?_ | refine .mk 26 (by decide +kernel) ?_ | refine .mk 27 (by decide +kernel) ?_ | refine .mk 28 (by decide +kernel) ?_ | refine .mk 29 (by decide +kernel) ?_ | refine .mk 30 (by decide +kernel) ?_ | refine .mk 31 (by decide +kernel) ?_ | refine .mk 32 (by decide +kernel) ?_ | refine .mk 33 (by decide +kernel) ?_ | refine .mk 34 (by decide +kernel) ?_ | refine .mk 35 (by decide +kernel) ?_ | refine .mk 36 (by decide +kernel) ?_ | refine .mk 37 (by decide +kernel) ?_ | refine .mk 38 (by decide +kernel) ?_ | refine .mk 39 (by decide +kernel) ?_ | refine .mk 40 (by decide +kernel) ?_ | refine .mk 41 (by decide +kernel) ?_); (conv => whnf))
      | (refine HOLD.mk (by first | exact trivial | exact ⟨⟨rfl, rfl⟩, trivial⟩ | exact ⟨⟨rfl, rfl⟩, ⟨rfl, rfl⟩, trivial⟩) ?_; (conv => whnf))
      | (refine CALL0.mk _ _ _ _ _ (leL_refl _) (c_CheckAngle ..) rfl ?_; conv => whnf)
      | (refine CALLQ.mk _ _ _ (leL_refl _) (c_CheckAngle ..) rfl ?_; conv => whnf)
      | (refine CALL0.mk _ _ _ _ _ (leL_refl _) (hf ..) rfl ?_; conv => whnf)
      | (refine CALLQ.mk _ _ _ (leL_refl _) (hf ..) rfl ?_; conv => whnf)
    split
    rotate_left
    · rename_i h
      exact Bool.noConfusion ((q).symm.trans h)
    rename_i hN
    clear hN
    conv => whnf
    exact ⟨rfl, rfl⟩

def allO (F : Int × Int) (o : Option (Int × Int)) : IV := match o with
  | some t => .tup [.agg [.int .i64 F.1, .int .i64 F.2], .agg [.int .i64 t.1, .int .i64 t.2], .bool true]
  | none => .tup [.agg [.int .i64 0, .int .i64 0], .agg [.int .i64 0, .int .i64 0], .bool false]

theorem bestTo_no (g : Int → Option (Int × Int)) (x : Int) : ∀ k, (bestTo g x k).2.2 = false → bestTo g x k = (0, (0, 0), false)
  | 0, _ => rfl
  | k + 1, h => by
    have ih := bestTo_no g x k
    simp only [bestTo] at h ⊢
    cases hg : g (x + k) with
    | none => rw [hg] at h; exact ih h
    | some t =>
      rw [hg] at h
      simp only at h ⊢
      cases hc : (!(bestTo g x k).2.2 || decide (t.1 > (bestTo g x k).2.1.1)) with
      | true => rw [hc] at h; simp at h
      | false =>
        rw [hc] at h
        simp only [cond_false] at h ⊢
        exact ih h

def limO (o : Option Int) : IV := match o with
  | some p => .tup [.int .i64 p, .bool true]
  | none => .tup [.int .i64 0, .bool false]

end Go.Proofs.YtllmejkmogepjaaDoor.Ix

/-
  Rw3: plain laws of the best pitch and of the pitch of a limit.
-/
namespace Go.Proofs.YtllmejkmogepjaaDoor.Ix
set_option linter.unusedVariables false
set_option linter.unusedSimpArgs false

theorem best_spec (g : Int → Option (Int × Int)) (x : Int) : ∀ N,
    (∀ (k : Nat) t, k < N → g (x + k) = some t → (bestTo g x N).2.2 = true ∧ t.1 ≤ (bestTo g x N).2.1.1 ∧ (x + k < (bestTo g x N).1 → t.1 ≠ (bestTo g x N).2.1.1)) ∧
    ((bestTo g x N).2.2 = true → ∃ k : Nat, k < N ∧ (bestTo g x N).1 = x + k ∧ g (x + k) = some (bestTo g x N).2.1)
  | 0 => ⟨fun k t h => by omega, fun h => by cases h⟩
  | N + 1 => by
    obtain ⟨i1, i2⟩ := best_spec g x N
    have hstep : bestTo g x (N + 1) = match g (x + N) with
      | some t => bif !(bestTo g x N).2.2 || decide (t.1 > (bestTo g x N).2.1.1) then (x + N, t, true) else bestTo g x N
      | none => bestTo g x N := rfl
    obtain ⟨B, hB⟩ : ∃ B, B = bestTo g x N := ⟨_, rfl⟩
    rw [← hB] at i1 i2 hstep
    rw [hstep]
    cases hg : g (x + N) with
    | none =>
      refine ⟨fun k t hk ht => ?_, fun h => ?_⟩
      · by_cases hkN : k = N
        · subst hkN; rw [hg] at ht; cases ht
        · exact i1 k t (by omega) ht
      · obtain ⟨k, h1, h2⟩ := i2 h
        exact ⟨k, by omega, h2⟩
    | some u =>
      simp only
      cases hc : (!B.2.2 || decide (u.1 > B.2.1.1)) with
      | true =>
        refine ⟨fun k t hk ht => ?_, fun _ => ⟨N, by omega, rfl, hg⟩⟩
        simp only [cond_true]
        by_cases hkN : k = N
        · subst hkN; rw [hg] at ht; cases ht
          exact ⟨trivial, Int.le_refl _, fun h => absurd h (by omega)⟩
        · obtain ⟨j1, j2, j3⟩ := i1 k t (by omega) ht
          rw [j1] at hc
          simp at hc
          exact ⟨trivial, by omega, fun _ => by omega⟩
      | false =>
        simp only [Bool.or_eq_false_iff, Bool.not_eq_false', decide_eq_false_iff_not] at hc
        simp only [cond_false]
        obtain ⟨k0, q1, q2, q3⟩ := i2 hc.1
        refine ⟨fun k t hk ht => ?_, fun _ => ⟨k0, by omega, q2, q3⟩⟩
        by_cases hkN : k = N
        · subst hkN; rw [hg] at ht; cases ht
          exact ⟨hc.1, by omega, fun h => absurd h (by rw [q2]; omega)⟩
        · exact i1 k t (by omega) ht

theorem lim_none (g : Int → Option (Int × Int)) (m : Int) : ∀ (N : Nat) (p : Int), limTo g m N p = none → ∀ (k : Nat) t, k < N → g (p + k) = some t → ¬ t.2 ≤ m
  | 0, p, h, k, t, hk, _ => by omega
  | N + 1, p, h, k, t, hk, ht => by
    simp only [limTo] at h
    cases k with
    | zero =>
      rw [show p + ((0 : Nat) : Int) = p by omega] at ht
      rw [ht] at h
      simp only at h
      intro hle
      rw [decide_eq_true hle] at h
      cases h
    | succ k =>
      have ih := lim_none g m N (p + 1)
      have ht' : g (p + 1 + k) = some t := by rw [show p + 1 + (k : Int) = p + ((k + 1 : Nat) : Int) by omega]; exact ht
      split at h
      · rename_i u hu
        cases hc : decide (u.2 ≤ m) with
        | true => rw [hc] at h; cases h
        | false => rw [hc] at h; exact ih h k t (by omega) ht'
      · exact ih h k t (by omega) ht'

theorem lim_some (g : Int → Option (Int × Int)) (m : Int) : ∀ (N : Nat) (p q : Int), limTo g m N p = some q →
    (∃ k : Nat, k < N ∧ q = p + k) ∧ (∃ t, g q = some t ∧ t.2 ≤ m) ∧ ∀ (k : Nat) t, p + k < q → g (p + k) = some t → ¬ t.2 ≤ m
  | 0, p, q, h => by cases h
  | N + 1, p, q, h => by
    simp only [limTo] at h
    have later : limTo g m N (p + 1) = some q → (∀ t, g p = some t → ¬ t.2 ≤ m) → (∃ k : Nat, k < N + 1 ∧ q = p + k) ∧ (∃ t, g q = some t ∧ t.2 ≤ m) ∧ ∀ (k : Nat) t, p + k < q → g (p + k) = some t → ¬ t.2 ≤ m := fun h h0 => by
      obtain ⟨⟨k, h1, h2⟩, h3, h4⟩ := lim_some g m N (p + 1) q h
      refine ⟨⟨k + 1, by omega, by omega⟩, h3, fun k t hk ht => ?_⟩
      cases k with
      | zero => exact h0 t (by rw [show p + ((0 : Nat) : Int) = p by omega] at ht; exact ht)
      | succ k => exact h4 k t (by omega) (by rw [show p + 1 + (k : Int) = p + ((k + 1 : Nat) : Int) by omega]; exact ht)
    cases hg : g p with
    | none =>
      rw [hg] at h
      exact later h (fun t ht => by rw [hg] at ht; cases ht)
    | some u =>
      rw [hg] at h
      simp only at h
      cases hc : decide (u.2 ≤ m) with
      | true =>
        rw [hc] at h
        cases h
        exact ⟨⟨0, by omega, by omega⟩, ⟨u, hg, of_decide_eq_true hc⟩, fun k t hk => by omega⟩
      | false =>
        rw [hc] at h
        exact later h (fun t ht => by rw [hg] at ht; cases ht; exact of_decide_eq_false hc)
end Go.Proofs.YtllmejkmogepjaaDoor.Ix
