/- YtfoenhiohhmnlaaGreatDoorM8 -/
import Derived.Test.YtfoenhiohhmnlaaGreatDoorM7
namespace Go.Proofs.YtfoenhiohhmnlaaGreatDoor.Ix
open Go.Proofs
set_option maxRecDepth 100000
set_option linter.unusedVariables false
set_option linter.unusedSimpArgs false
variable {gl : Nat → IV}
theorem sections_ivis (C : Con) (gl : Nat → IV) (n : Nat) (hn : n ≤ 4611686018427387904) (r1 r2 r3 r4 : Nat → Int) (a b c : Int) (nl nd : Nat) (fl2 fd : Nat → List IV) :
    ivis C (Γs gl) f_rotor_sections_1 [.vptr 3 1 (fun _ => [.lst none 1 nl fl2, .lst none 1 nd fd, .lst none 4 n (fun i => [.int .i64 (r1 i), .int .i64 (r2 i), .int .i64 (r3 i), .int .i64 (r4 i)])]) 0 0, .vptr 3 1 (fun _ => [.int .i64 a, .int .i64 b, .int .i64 c]) 0 0] n
     (fun i => [.agg [.lst none 1 nl fl2, .lst none 1 nd fd, .int .i64 (r1 i), .int .i64 (r2 i), .int .i64 (r3 i), .int .i64 (r4 i), .int .i64 a, .int .i64 b, .int .i64 c]]) := by
  conv => whnf
  intro l
  conv => whnf
  refine .mk (α := {i : Nat // i ≤ n}) (fun i => ⟨[(9, .int .i64 i.1), (8, .int .i64 n), (7, .lst none 4 n (fun i => [.int .i64 (r1 i), .int .i64 (r2 i), .int .i64 (r3 i), .int .i64 (r4 i)])), (2, .vptr 3 1 (fun _ => [.int .i64 a, .int .i64 b, .int .i64 c]) 0 0), (1, .vptr 3 1 (fun _ => [.lst none 1 nl fl2, .lst none 1 nd fd, .lst none 4 n (fun i => [.int .i64 (r1 i), .int .i64 (r2 i), .int .i64 (r3 i), .int .i64 (r4 i)])]) 0 0), (0, .lit (.func (.yield l) #[] #[]))], [], List.replicate i.1 []⟩) (fun i => n - i.1) ⟨0, Nat.zero_le _⟩ ⟨?_, trivial, rfl, rfl⟩ ?_
  · exact ⟨leV_refl _, leV_refl _, leV_refl _, leV_refl _, leV_refl _, leV_refl _, trivial⟩
  · rintro ⟨i, hi⟩
    conv => whnf
    split
    · rename_i hb
      conv => whnf
      split
      · have hlt : i < n := by simpa using hb
        conv => whnf
        refine .mk rfl (by simp) (by simpa using hlt) (by simp) rfl ?_
        intro bb
        cases bb
        · conv => whnf
          show n ≤ (List.replicate (n + 1) [] ++ List.replicate i []).length
          simp; omega
        · conv => whnf
          refine ⟨⟨i + 1, hlt⟩, ⟨?_, trivial, rfl, rfl⟩, ?_⟩
          · have hw : IntKind.i64.wrap ((i : Int) + 1) = ((i + 1 : Nat) : Int) := by
              rw [wrap_in] <;> omega
            exact ⟨leV_int hw, leV_refl _, leV_refl _, leV_refl _, leV_refl _, leV_refl _, trivial⟩
          · show n - (i + 1) < n - i
            omega
      · rename_i h2; rw [hb] at h2; cases h2
    · rename_i hb
      conv => whnf
      simp at hb
      show n ≤ (List.replicate i []).length
      simp; omega
theorem v_sections (gl : Nat → IV) (b : Bl) (f : Fl) (hn : b.nr ≤ 16) : Vis prog gl n_rotor_sections_1 [.vptr 3 1 (fun _ => [.lst none 1 b.nl fun i => [.int .i64 (b.lf i)], .lst none 1 b.nd fun i => [.int .i64 (b.df i)], .lst none 4 b.nr fun i => [.int .i64 (b.r1 i), .int .i64 (b.r2 i), .int .i64 (b.r3 i), .int .i64 (b.r4 i)]]) 0 0, .vptr 3 1 (fun _ => [.int .i64 f.w, .int .i64 f.s, .int .i64 f.p]) 0 0] b.nr (fun i => [secAt b f i]) :=
  vis_of_body (Γ := Γs gl) (C := ⟨fun _ _ _ _ _ => False, fun _ _ _ _ => False, fun _ _ _ _ => False, fun _ _ _ _ _ => False⟩) tok0 ⟨fun _ _ _ _ _ h => h.elim, fun _ _ _ _ h => h.elim, fun _ _ _ _ _ h => h.elim⟩ (fun _ _ _ _ _ h => h.elim) h_rotor_sections_1 rfl rfl (by kernel_rfl) (by kernel_rfl) (sections_ivis _ gl b.nr (by omega) _ _ _ _ _ _ _ _ _ _ _)
def sumTo (g : Nat → Int) : Nat → Int
  | 0 => 0
  | n + 1 => sumTo g n + g n
theorem sumTo_bound {g : Nat → Int} {B : Int} : ∀ (n : Nat), (∀ i, i < n → -B ≤ g i ∧ g i ≤ B) → -(n * B) ≤ sumTo g n ∧ sumTo g n ≤ n * B
  | 0, _ => by simp [sumTo]
  | n + 1, h => by
    have h1 := sumTo_bound n fun i hi => h i (by omega)
    have h2 := h n (by omega)
    simp only [sumTo]
    have e : ((n + 1 : Nat) : Int) * B = n * B + B := by rw [Int.natCast_add, Int.add_mul]; simp
    rw [e]; omega
theorem c_sum (up : List Ces) (n : Nat) (hn : n ≤ 16) (g1 g2 : Nat → Int) (h : ∀ i, i < n → (-1000000000000000 ≤ g1 i ∧ g1 i ≤ 1000000000000000) ∧ (-1000000000000000 ≤ g2 i ∧ g2 i ≤ 1000000000000000)) :
    Cs gl n_rotor_sum up [.lst none 2 n fun i => [.int .i64 (g1 i), .int .i64 (g2 i)]] (.agg [.int .i64 (sumTo g1 n), .int .i64 (sumTo g2 n)]) up := by
  refine mk h_rotor_sum rfl rfl ?_
  conv => whnf
  refine .mk (α := {k : Nat // k ≤ n}) (fun k => ⟨[(8, .int .i64 k.1), (7, .int .i64 n), (6, .lst none 2 n fun i => [.int .i64 (g1 i), .int .i64 (g2 i)]), (2, .ptr 0 2 0), (3, .ptr 0 3 0)], [(3, [.int .i64 (sumTo g1 k.1), .int .i64 (sumTo g2 k.1)]), (2, [.int .i64 0, .int .i64 0])], up⟩) (fun k => n - k.1) ⟨0, Nat.zero_le _⟩ ⟨?_, ?_, rfl, rfl⟩ ?_
  · exact ⟨leV_refl _, leV_refl _, leV_refl _, leV_refl _, leV_refl _, trivial⟩
  · exact ⟨leL_refl _, leL_refl _, trivial⟩
  · rintro ⟨k, hk⟩
    conv => whnf
    split
    · rename_i hb
      have hlt : k < n := by simpa using hb
      conv => whnf
      split
      · have b1 := sumTo_bound (g := g1) (B := 1000000000000000) k fun i hi => (h i (by omega)).1
        have b2 := sumTo_bound (g := g2) (B := 1000000000000000) k fun i hi => (h i (by omega)).2
        have b3 := h k hlt
        have e1 : w64 (sumTo g1 k + g1 k) = sumTo g1 (k + 1) := by rw [w64, wrap_in]; rfl; omega; omega
        have e2 : w64 (sumTo g2 k + g2 k) = sumTo g2 (k + 1) := by rw [w64, wrap_in]; rfl; omega; omega
        conv => whnf
        refine ⟨⟨k + 1, hlt⟩, ⟨⟨leV_int ?_, leV_refl _, leV_refl _, leV_refl _, leV_refl _, trivial⟩, ⟨⟨leV_int e1, leV_int e2, trivial⟩, leL_refl _, trivial⟩, rfl, rfl⟩, ?_⟩
        · show w64 ((k : Int) + 1) = ((k + 1 : Nat) : Int)
          rw [w64, wrap_in] <;> omega
        · show n - (k + 1) < n - k
          omega
      · rename_i h2; rw [hb] at h2; cases h2
    · rename_i hb
      have : k = n := by simp at hb; omega
      subst this
      conv => whnf
      exact ⟨rfl, rfl⟩
def allBr (b : Bl) (f : Fl) (d : Nat) : Prop := ∀ i, i < b.nr → (b.br f i d).isSome = true
instance (b : Bl) (f : Fl) (d : Nat) : Decidable (allBr b f d) := by unfold allBr; infer_instance
def eachR (b : Bl) (f : Fl) (d : Nat) (φ : Nat → Int → Int × Int) : IV :=
  if allBr b f d then .tup [.lst (some 32) 2 b.nr fun i => [.int .i64 (φ i ((b.br f i d).getD 0)).1, .int .i64 (φ i ((b.br f i d).getD 0)).2], .int .i64 0]
  else .tup [.nilS, .int .i64 7]
theorem c_each (up : List Ces) (b : Bl) (f : Fl) (d : Nat) (hd : d < 12) (hb : b.err = 0) (hf : f.err = 0) (F : Nat) (φ : Nat → Int → Int × Int)
    (hF : ∀ up i a, i < b.nr → b.br f i d = some a → Cs gl F up [secAt b f i, .agg [.int .i64 a, .int .i64 ((d + 1 : Nat) : Int)]] (.agg [.int .i64 (φ i a).1, .int .i64 (φ i a).2]) up) :
    Cs gl n_rotor_each up [b.iv, f.iv, .int .i64 ((d + 1 : Nat) : Int), .fn F [] []] (eachR b f d φ) up := by
  refine mk h_rotor_each rfl rfl ?_
  obtain ⟨_, hn1, hn2, ok⟩ := Bl.good hb hf
  conv => whnf
  refine .mk _ _ _ _ _ (leL_refl _) (c_sections _ _ _ _ _ _ _ _ _ _ _ _ _) rfl ?_
  conv => whnf
  let L : Nat → List IV := fun i => [.int .i64 (φ i ((b.br f i d).getD 0)).1, .int .i64 (φ i ((b.br f i d).getD 0)).2]
  refine .mk n_rotor_sections_1 _ b.nr (fun i => [secAt b f i]) rfl rfl (v_sections gl b f hn2) (by kernel_rfl) (fun _ _ => rfl)
    (α := {k : Nat // k ≤ b.nr ∧ ∀ j, j < k → (b.br f j d).isSome = true}) (fun k => ⟨[(6, .ptr 0 6 0), (7, .ptr 0 7 0), (8, .ptr 0 8 0), (9, .ptr 0 9 0), (10, .ptr 0 10 0)],
      [(10, [.lst (some 32) 2 k.1 L]), (9, [.int .i64 0]), (8, [.nilS]), (7, [.fn F [] []]), (6, [.int .i64 ((d + 1 : Nat) : Int)])], up⟩) (fun k => k.1) ⟨0, Nat.zero_le _, fun j hj => by omega⟩ ⟨?_, ?_, rfl, rfl⟩ rfl (fun _ => rfl) ?_ ?_
  · exact ⟨leV_refl _, leV_refl _, leV_refl _, leV_refl _, leV_refl _, trivial⟩
  · exact ⟨⟨rfl, trivial⟩, leL_refl _, leL_refl _, leL_refl _, leL_refl _, trivial⟩
  · rintro ⟨k, hk, hs⟩ hlt
    replace hlt : k < b.nr := hlt
    have hfd := fun up => c_findP (gl := gl) up b f k (ok k hlt) d hd
    conv => whnf
    cases hbr : b.br f k d with
    | none =>
      rw [hbr] at hfd
      refine .mk _ _ _ _ _ (leL_refl _) (hfd _) rfl ?_
      conv => whnf
      refine ⟨?_, rfl⟩
      have hno : ¬ allBr b f d := fun h => by have := h k hlt; rw [hbr] at this; cases this
      unfold eachR
      rw [if_neg hno]
    | some a =>
      rw [hbr] at hfd
      refine .mk _ _ _ _ _ (leL_refl _) (hfd _) rfl ?_
      conv => whnf
      refine .mk 6 (by kernel_rfl) ?_
      conv => whnf
      first | refine CALLQ.mk _ _ _ (leL_refl _) (hF _ k a hlt hbr) rfl ?_ | refine CALL0.mk _ _ _ _ _ (leL_refl _) (hF _ k a hlt hbr) rfl ?_
      conv => whnf
      split
      rotate_left
      · rename_i h
        have h' : decide (k + 1 ≤ 1073741824) = false := h
        simp at h' <;> omega
      conv => whnf
      refine ⟨⟨k + 1, hlt, fun j hj => ?_⟩, rfl, ⟨?_, ?_, rfl, rfl⟩⟩
      · by_cases e : j = k
        · rw [e, hbr]; rfl
        · exact hs j (by omega)
      · exact ⟨leV_refl _, leV_refl _, leV_refl _, leV_refl _, leV_refl _, trivial⟩
      · refine ⟨⟨⟨.inr rfl, rfl, rfl, fun j hj => ?_⟩, trivial⟩, leL_refl _, leL_refl _, leL_refl _, leL_refl _, trivial⟩
        show (if j < k then L j else litF 2 [.int .i64 (φ k a).1, .int .i64 (φ k a).2] (j - k)) = L j
        split
        · rfl
        · have : j = k := by have : j < k + 1 := hj; omega
          subst this
          rw [Nat.sub_self]
          show [IV.int .i64 (φ j a).1, .int .i64 (φ j a).2] = [.int .i64 (φ j ((b.br f j d).getD 0)).1, .int .i64 (φ j ((b.br f j d).getD 0)).2]
          rw [hbr]; rfl
  · rintro ⟨k, hk, hs⟩ heq
    have : k = b.nr := heq
    subst this
    conv => whnf
    refine ⟨?_, rfl⟩
    unfold eachR
    rw [if_pos (show allBr b f d from hs)]
theorem br_rng {b : Bl} {f : Fl} {i d : Nat} (h : b.ok f i) {a : Int} (hbr : b.br f i d = some a) : 0 ≤ a ∧ a < 2 ^ d := by
  have := (brP_some h).1 hbr
  exact ⟨this.1, this.2.1⟩
theorem tor_bound {b : Bl} {f : Fl} {i d : Nat} (h : b.ok f i) (hd : d < 12) {a : Int} (hbr : b.br f i d = some a) :
    (-1000000000000000 ≤ (b.tor f i a (d + 1)).1 ∧ (b.tor f i a (d + 1)).1 ≤ 1000000000000000) ∧ (-1000000000000000 ≤ (b.tor f i a (d + 1)).2 ∧ (b.tor f i a (d + 1)).2 ≤ 1000000000000000) := by
  obtain ⟨h0, h1⟩ := br_rng h hbr
  have hs := Int.pow_succ (2 : Int) d
  have hp := two_pos d
  have r1 := infl_rng h (d := d + 1) (a := a + 1) (by omega) (by omega)
  have r2 := infl_rng h (d := d + 1) (a := a) (by omega) (by omega)
  obtain ⟨x, y, x1, x2, y1, y2, e1, e2⟩ := stepsP_in (n := b.nl) (lf := b.lf) (df := b.df) (r := b.r1 i) (c := b.r2 i) (t := b.r3 i) (tip := b.r4 i) (p := f.p) (inflP_mono h (d := d + 1) (show a ≤ a + 1 by omega)) (b.nl + 2)
  have r1 : 0 ≤ inflP (b.r1 i) f.w f.s (a + 1) (d + 1) := r1.1
  have r2 : inflP (b.r1 i) f.w f.s a (d + 1) ≤ 51200 := r2.2
  have q1 := ofP_bound h (x := x) (by omega) (by omega)
  have q2 := ofP_bound h (x := y) (by omega) (by omega)
  show (-1000000000000000 ≤ (stepsP _ _ _ _ _ _ _ _ _ _ _).1 ∧ _) ∧ _
  rw [e1]
  refine ⟨⟨q1.1, ?_⟩, ?_⟩
  · show (stepsP _ _ _ _ _ _ _ _ _ _ _).1 ≤ _
    rw [e1]; exact q1.2.1
  · show _ ≤ (stepsP _ _ _ _ _ _ _ _ _ _ _).2 ∧ (stepsP _ _ _ _ _ _ _ _ _ _ _).2 ≤ _
    rw [e2]; exact ⟨q2.1, q2.2.1⟩
theorem thr_bound {b : Bl} {f : Fl} {i d : Nat} (h : b.ok f i) (hd : d < 12) {a : Int} (hbr : b.br f i d = some a) :
    (-1000000000000000 ≤ (b.thr i a (d + 1)).1 ∧ (b.thr i a (d + 1)).1 ≤ 1000000000000000) ∧ (-1000000000000000 ≤ (b.thr i a (d + 1)).2 ∧ (b.thr i a (d + 1)).2 ≤ 1000000000000000) := by
  obtain ⟨h0, h1⟩ := br_rng h hbr
  have hs := Int.pow_succ (2 : Int) d
  have hp := two_pos d
  have q1 := thrustP_bound h (d := d + 1) (a := a) (by omega) h0 (by omega)
  have q2 := thrustP_bound h (d := d + 1) (a := a + 1) (by omega) (by omega) (by omega)
  refine ⟨⟨?_, q1.2.1⟩, ?_, q2.2.1⟩
  · have := q1.1
    show _ ≤ thrustP _ _ _; omega
  · have := q2.1
    show _ ≤ thrustP _ _ _; omega
def sumR (b : Bl) (f : Fl) (d : Int) (φ : Nat → Int → Nat → Int × Int) : IV :=
  bif allErr b f d != 0 then .tup [.agg [.int .i64 0, .int .i64 0], .int .i64 (allErr b f d)] else
    if allBr b f (d - 1).toNat then .tup [.agg [.int .i64 (sumTo (fun i => (φ i ((b.br f i (d - 1).toNat).getD 0) d.toNat).1) b.nr), .int .i64 (sumTo (fun i => (φ i ((b.br f i (d - 1).toNat).getD 0) d.toNat).2) b.nr)], .int .i64 0]
    else .tup [.agg [.int .i64 0, .int .i64 0], .int .i64 7]
theorem allErr_ok {b : Bl} {f : Fl} {d : Int} (h : allErr b f d = 0) : b.err = 0 ∧ f.err = 0 ∧ ∃ n : Nat, d = ((n + 1 : Nat) : Int) ∧ n < 12 := by
  unfold allErr at h
  simp only [orE_zero, withinS_zero] at h
  exact ⟨h.1, h.2.1, (d - 1).toNat, by omega, by omega⟩
theorem c_sum0 (up : List Ces) : Cs gl n_rotor_sum up [.nilS] (.agg [.int .i64 0, .int .i64 0]) up := by
  have := c_sum (gl := gl) up 0 (by omega) (fun _ => 0) (fun _ => 0) (fun i hi => by omega)
  refine Comp.le ?_ this
  exact ⟨rfl, trivial⟩
theorem c_Thrust (up : List Ces) (b : Bl) (f : Fl) (d : Int) : Cs gl n_rotor_Thrust up [b.iv, f.iv, .int .i64 d] (sumR b f d (fun i a d => b.thr i a d)) up := by
  refine mk h_rotor_Thrust rfl rfl ?_
  unfold sumR
  conv => whnf
  refine .mk _ _ _ _ _ (leL_refl _) (c_checkAll _ b f _) rfl ?_
  conv => whnf
  split
  · rename_i h
    have h' : (allErr b f d != 0) = true := h
    conv => whnf
    refine ⟨?_, rfl⟩
    rw [h']; rfl
  · rename_i h
    have h' : (allErr b f d != 0) = false := h
    have h0 : allErr b f d = 0 := by simpa using h'
    rw [h', cond_false]
    obtain ⟨g1, g2, n, rfl, g3⟩ := allErr_ok h0
    obtain ⟨_, hn1, hn2, ok⟩ := Bl.good g1 g2
    rw [show (((n + 1 : Nat) : Int) - 1).toNat = n by omega, show (((n + 1 : Nat) : Int)).toNat = n + 1 by omega]
    have hs := Int.pow_succ (2 : Int) n
    have he := fun up => c_each (gl := gl) up b f n g3 g1 g2 n_rotor_section_thrust (fun i a => b.thr i a (n + 1)) fun up i a hi hbr => by
      have := br_rng (ok i hi) hbr
      exact c_thrust up b f i (ok i hi) a (n + 1) (by omega) (by omega) (by omega)
    conv => whnf
    by_cases hall : allBr b f n
    · rw [eachR, if_pos hall] at he
      refine .mk _ _ _ _ _ (leL_refl _) (he _) rfl ?_
      conv => whnf
      refine .mk _ _ _ _ _ (leL_refl _) (c_sum _ _ hn2 _ _ (fun i hi => by obtain ⟨a, ha⟩ := Option.isSome_iff_exists.1 (hall i hi); rw [ha]; exact thr_bound (ok i hi) g3 ha)) rfl ?_
      conv => whnf
      refine ⟨?_, rfl⟩
      rw [if_pos hall]
    · rw [eachR, if_neg hall] at he
      refine .mk _ _ _ _ _ (leL_refl _) (he _) rfl ?_
      conv => whnf
      refine .mk _ _ _ _ _ (leL_refl _) (c_sum0 _) rfl ?_
      conv => whnf
      refine ⟨?_, rfl⟩
      rw [if_neg hall]
def ringsR (b : Bl) (f : Fl) (d : Int) : IV :=
  bif allErr b f d != 0 then .tup [.nilS, .int .i64 (allErr b f d)] else
    if allBr b f (d - 1).toNat then .tup [.lst (some 19) 2 b.nr fun i => [.int .i64 (b.tor f i ((b.br f i (d - 1).toNat).getD 0) d.toNat).1, .int .i64 (b.tor f i ((b.br f i (d - 1).toNat).getD 0) d.toNat).2], .int .i64 0]
    else .tup [.nilS, .int .i64 7]
theorem c_Rings (up : List Ces) (b : Bl) (f : Fl) (d : Int) : Cs gl n_rotor_Rings up [b.iv, f.iv, .int .i64 d] (ringsR b f d) up := by
  refine mk h_rotor_Rings rfl rfl ?_
  unfold ringsR
  conv => whnf
  refine .mk _ _ _ _ _ (leL_refl _) (c_checkAll _ b f _) rfl ?_
  conv => whnf
  split
  · rename_i h
    have h' : (allErr b f d != 0) = true := h
    conv => whnf
    refine ⟨?_, rfl⟩
    rw [h']; rfl
  · rename_i h
    have h' : (allErr b f d != 0) = false := h
    have h0 : allErr b f d = 0 := by simpa using h'
    rw [h', cond_false]
    obtain ⟨g1, g2, n, rfl, g3⟩ := allErr_ok h0
    obtain ⟨hnd, hn1, hn2, ok⟩ := Bl.good g1 g2
    rw [show (((n + 1 : Nat) : Int) - 1).toNat = n by omega, show (((n + 1 : Nat) : Int)).toNat = n + 1 by omega]
    have hs := Int.pow_succ (2 : Int) n
    have he := fun up => c_each (gl := gl) up b f n g3 g1 g2 n_rotor_section_torque (fun i a => b.tor f i a (n + 1)) fun up i a hi hbr => by
      have := br_rng (ok i hi) hbr
      exact c_torque up b f i (ok i hi) hnd a (n + 1) (by omega) (by omega) (by omega)
    conv => whnf
    by_cases hall : allBr b f n
    · rw [eachR, if_pos hall] at he
      refine .mk _ _ _ _ _ (leL_refl _) (he _) rfl ?_
      conv => whnf
      refine ⟨?_, rfl⟩
      rw [if_pos hall]
    · rw [eachR, if_neg hall] at he
      refine .mk _ _ _ _ _ (leL_refl _) (he _) rfl ?_
      conv => whnf
      refine ⟨?_, rfl⟩
      rw [if_neg hall]
theorem c_Torque (up : List Ces) (b : Bl) (f : Fl) (d : Int) : Cs gl n_rotor_Torque up [b.iv, f.iv, .int .i64 d] (sumR b f d (fun i a d => b.tor f i a d)) up := by
  refine mk h_rotor_Torque rfl rfl ?_
  unfold sumR
  have hr := fun up => c_Rings (gl := gl) up b f d
  unfold ringsR at hr
  conv => whnf
  by_cases h' : (allErr b f d != 0) = true
  · rw [h', cond_true] at hr
    refine .mk _ _ _ _ _ (leL_refl _) (hr _) rfl ?_
    conv => whnf
    refine .mk _ _ _ _ _ (leL_refl _) (c_sum0 _) rfl ?_
    conv => whnf
    refine ⟨?_, rfl⟩
    rw [h']; rfl
  · replace h' : (allErr b f d != 0) = false := by simpa using h'
    rw [h', cond_false] at hr ⊢
    have h0 : allErr b f d = 0 := by simpa using h'
    obtain ⟨g1, g2, n, rfl, g3⟩ := allErr_ok h0
    obtain ⟨hnd, hn1, hn2, ok⟩ := Bl.good g1 g2
    rw [show (((n + 1 : Nat) : Int) - 1).toNat = n by omega, show (((n + 1 : Nat) : Int)).toNat = n + 1 by omega] at hr ⊢
    by_cases hall : allBr b f n
    · rw [if_pos hall] at hr
      refine .mk _ _ _ _ _ (leL_refl _) (hr _) rfl ?_
      conv => whnf
      refine .mk _ _ _ _ _ (leL_refl _) (c_sum _ _ hn2 _ _ (fun i hi => by obtain ⟨a, ha⟩ := Option.isSome_iff_exists.1 (hall i hi); rw [ha]; exact tor_bound (ok i hi) g3 ha)) rfl ?_
      conv => whnf
      refine ⟨?_, rfl⟩
      rw [if_pos hall]
    · rw [if_neg hall] at hr
      refine .mk _ _ _ _ _ (leL_refl _) (hr _) rfl ?_
      conv => whnf
      refine .mk _ _ _ _ _ (leL_refl _) (c_sum0 _) rfl ?_
      conv => whnf
      refine ⟨?_, rfl⟩
      rw [if_neg hall]
end Go.Proofs.YtfoenhiohhmnlaaGreatDoor.Ix

namespace Go.Proofs.YtfoenhiohhmnlaaGreatDoor.Ix
open Go.Proofs
set_option maxRecDepth 100000
set_option linter.unusedVariables false
set_option linter.unusedSimpArgs false
variable {gl : Nat → IV}
theorem c_CheckRange (up : List Ces) (n lo hi : Int) : Cs gl n_nacelleref01_CheckRange up [.int .i64 n, .int .i64 lo, .int .i64 hi] (.int .i64 (withinS n lo hi)) up := by
  refine mk h_nacelleref01_CheckRange rfl rfl ?_
  conv => whnf
  split
  · rename_i h
    have h : decide (n < lo) = true := h
    conv => whnf
    simp [withinS, h]
  · rename_i h
    have h : decide (n < lo) = false := h
    conv => whnf
    split
    · rename_i h2
      have h2 : decide (n > hi) = true := h2
      conv => whnf
      simp [withinS, h, h2]
    · rename_i h2
      have h2 : decide (n > hi) = false := h2
      conv => whnf
      simp [withinS, h, h2]
theorem c_rFirst (up : List Ces) (n : Nat) (hn : n ≤ 4611686018427387904) (f : Nat → Int) : Cs gl n_nacelleref01_First up [.lst none 1 n fun i => [.int .i64 (f i)]] (.int .i64 (firstS f n 0)) up := by
  refine mk h_nacelleref01_First rfl rfl ?_
  conv => whnf
  refine .mk (α := {i : Nat // i ≤ n ∧ firstS f n 0 = firstS f (n - i) i}) (fun i => ⟨[(3, .int .i64 i.1), (0, .lst none 1 n fun i => [.int .i64 (f i)])], [], up⟩) (fun i => n - i.1) ⟨0, Nat.zero_le _, rfl⟩ ⟨⟨leV_refl _, leV_refl _, trivial⟩, trivial, rfl, rfl⟩ ?_
  rintro ⟨i, hi, hf⟩
  conv => whnf
  split
  · rename_i hb
    have hlt : i < n := by
      have hb' : decide ((i : Int) < n) = true := hb
      simpa using hb'
    have hstep : firstS f (n - i) i = orE (f i) (firstS f (n - (i + 1)) (i + 1)) := by
      rw [show n - i = (n - (i + 1)) + 1 by omega]; rfl
    conv => whnf
    split
    rotate_left
    · rename_i h
      have h' : decide ((i : Int) < n) = false := h
      simp at h' <;> omega
    conv => whnf
    split
    · rename_i h2
      have h2 : (f i != 0) = true := h2
      conv => whnf
      split
      · conv => whnf
        refine ⟨?_, rfl⟩
        show IV.int .i64 (f i) = _
        rw [hf, hstep, orE_pos h2]
      · rename_i h3
        have h3 : decide ((i : Int) < n) = false := h3
        simp at h3; omega
    · rename_i h2
      have h2 : (f i != 0) = false := h2
      conv => whnf
      refine ⟨⟨i + 1, hlt, by rw [hf, hstep, orE_neg h2]⟩, ⟨⟨leV_int ?_, leV_refl _, trivial⟩, trivial, rfl, rfl⟩, ?_⟩
      · show w64 ((i : Int) + 1) = ((i + 1 : Nat) : Int)
        rw [w64, wrap_in] <;> omega
      · show n - (i + 1) < n - i
        omega
  · rename_i hb
    have : i = n := by
      have hb' : decide ((i : Int) < n) = false := hb
      simp at hb'; omega
    conv => whnf
    refine ⟨?_, rfl⟩
    rw [hf, this, Nat.sub_self]; rfl
theorem c_rf4 (up : List Ces) (f : Nat → List IV) (a b c d : Int) (h0 : f 0 = [.int .i64 a]) (h1 : f 1 = [.int .i64 b]) (h2 : f 2 = [.int .i64 c]) (h3 : f 3 = [.int .i64 d]) : Cs gl n_nacelleref01_First up [.lst none 1 4 f] (.int .i64 (orE a (orE b (orE c d)))) up := by
  have := c_rFirst (gl := gl) up 4 (by decide) fun i => [a, b, c, d].getD i 0
  have e : firstS (fun i => [a, b, c, d].getD i 0) 4 0 = orE a (orE b (orE c d)) := by rw [← orE_right (orE a (orE b (orE c d))), orE_assoc, orE_assoc, orE_assoc]; rfl
  rw [← e]
  refine Comp.le ?_ this
  refine ⟨⟨.inl rfl, rfl, rfl, fun i hi => ?_⟩, trivial⟩
  match i, hi with
  | 0, _ => exact h0
  | 1, _ => exact h1
  | 2, _ => exact h2
  | 3, _ => exact h3
theorem c_rCheckPolar (up : List Ces) (nl nd : Nat) (lf df : Nat → Int) : Cs gl n_nacelleref03_CheckPolar up [.agg [.lst none 1 nl fun i => [.int .i64 (lf i)], .lst none 1 nd fun i => [.int .i64 (df i)]]] (.int .i64 (polarS nl lf nd df)) up := by
  refine mk h_nacelleref03_CheckPolar rfl rfl ?_
  rw [polarS_eq]
  conv => whnf
  split
  · rename_i h
    have h : ((nl : Int) == 0) = true := h
    conv => whnf
    refine ⟨?_, rfl⟩
    rw [h]; rfl
  · rename_i h1
    have h1 : ((nl : Int) == 0) = false := h1
    rw [h1]
    conv => whnf
    split
    · rename_i h
      have h : decide ((nl : Int) > 32) = true := h
      conv => whnf
      refine ⟨?_, rfl⟩
      rw [h]; rfl
    · rename_i h2
      have h2 : decide ((nl : Int) > 32) = false := h2
      rw [h2]
      conv => whnf
      split
      · rename_i h
        have h : ((nd : Int) != nl) = true := h
        conv => whnf
        refine ⟨?_, rfl⟩
        rw [h]; rfl
      · rename_i h3
        have h3 : ((nd : Int) != nl) = false := h3
        rw [h3]
        have hk : orE (orE (bif false then 12 else 0) (orE (bif false then 5 else 0) (bif false then 2 else 0))) (orE (firstS (liftS lf) nl 0) (firstS (fun i => withinS (df i) 0 1000) nd 0)) = orE (firstS (liftS lf) nl 0) (firstS (fun i => withinS (df i) 0 1000) nd 0) := rfl
        rw [hk]
        clear hk
        have h3' : nd = nl := by simp at h3; omega
        subst h3'
        have h2' : nd ≤ 32 := by simp at h2; omega
        obtain ⟨R, hR⟩ : ∃ R, R = orE (firstS (liftS lf) nd 0) (firstS (fun i => withinS (df i) 0 1000) nd 0) := ⟨_, rfl⟩
        rw [← hR]
        conv => whnf
        refine .mk (α := {i : Nat // i ≤ nd ∧ R = orE (firstS (liftS lf) (nd - i) i) (firstS (fun i => withinS (df i) 0 1000) nd 0)}) (fun i => ⟨[(3, .int .i64 i.1), (1, .ptr 0 1 0)], [(1, [.lst none 1 nd fun i => [.int .i64 (lf i)], .lst none 1 nd fun i => [.int .i64 (df i)]])], up⟩) (fun i => nd - i.1) ⟨0, Nat.zero_le _, hR⟩ ⟨⟨leV_refl _, leV_refl _, trivial⟩, ⟨leL_refl _, trivial⟩, rfl, rfl⟩ ?_
        rintro ⟨i, hi, hf⟩
        conv => whnf
        split
        · rename_i hb
          have hlt : i < nd := by
            have hb' : decide ((i : Int) < nd) = true := hb
            simpa using hb'
          have hstep : firstS (liftS lf) (nd - i) i = orE (liftS lf i) (firstS (liftS lf) (nd - (i + 1)) (i + 1)) := by
            rw [show nd - i = (nd - (i + 1)) + 1 by omega]; rfl
          have hm : w64 ((i : Int) - 1) = (i : Int) - 1 := by rw [w64, wrap_in] <;> omega
          have hw : w64 ((i : Int) + 1) = ((i + 1 : Nat) : Int) := by rw [w64, wrap_in] <;> omega
          conv => whnf
          split
          rotate_left
          · rename_i h
            have h' : decide ((i : Int) < nd) = false := h
            simp at h' <;> omega
          conv => whnf
          refine .mk _ _ _ _ _ (leL_refl _) (c_CheckRange _ _ _ _) rfl ?_
          conv => whnf
          split
          · rename_i h
            have h : (withinS (lf i) 0 1000 != 0) = true := h
            have hl : liftS lf i = withinS (lf i) 0 1000 := orE_pos h
            conv => whnf
            refine ⟨?_, rfl⟩
            show IV.int .i64 (withinS (lf i) 0 1000) = _
            rw [hf, hstep, hl, orE_pos h, orE_pos h]
          · rename_i h
            have h : (withinS (lf i) 0 1000 != 0) = false := h
            have hl : liftS lf i = bif decide (lf i < lf (i - 1)) then 11 else 0 := orE_neg h
            conv => whnf
            refine .mk 16 (by kernel_rfl) ?_
            conv => whnf
            split
            · rename_i h0
              have h0 : decide ((i : Int) > 0) = true := h0
              have h0' : 0 < i := by simpa using h0
              conv => whnf
              split
              rotate_left
              · rename_i h
                have h' : decide ((i : Int) < nd) = false := h
                simp at h' <;> omega
              conv => whnf
              rw [show IntKind.i64.wrap ((i : Int) - 1) = ((i - 1 : Nat) : Int) by show w64 _ = _; rw [hm]; omega]
              split
              rotate_left
              · rename_i h
                have h' : decide (0 ≤ ((i - 1 : Nat) : Int)) = false := h
                simp at h' <;> omega
              conv => whnf
              split
              rotate_left
              · rename_i h
                have h' : decide (((i - 1 : Nat) : Int) < nd) = false := h
                simp at h' <;> omega
              conv => whnf
              split
              · rename_i g
                have g : decide (lf i < lf (i - 1)) = true := g
                rw [g] at hl
                conv => whnf
                refine ⟨?_, rfl⟩
                rw [hf, hstep, hl]; rfl
              · rename_i g
                have g : decide (lf i < lf (i - 1)) = false := g
                rw [g] at hl
                conv => whnf
                exact ⟨⟨i + 1, hlt, by rw [hf, hstep, hl]; rfl⟩, ⟨⟨leV_int hw, leV_refl _, trivial⟩, ⟨leL_refl _, trivial⟩, rfl, rfl⟩, (by show nd - (i + 1) < nd - i; omega)⟩
            · rename_i h0
              have h0 : decide ((i : Int) > 0) = false := h0
              have h0' : i = 0 := by simpa using h0
              have g : decide (lf i < lf (i - 1)) = false := by subst h0'; simp
              rw [g] at hl
              conv => whnf
              exact ⟨⟨i + 1, hlt, by rw [hf, hstep, hl]; rfl⟩, ⟨⟨leV_int hw, leV_refl _, trivial⟩, ⟨leL_refl _, trivial⟩, rfl, rfl⟩, (by show nd - (i + 1) < nd - i; omega)⟩
        · rename_i hb
          have : i = nd := by
            have hb' : decide ((i : Int) < nd) = false := hb
            simp at hb'; omega
          have hz : R = firstS (fun i => withinS (df i) 0 1000) nd 0 := by rw [hf, this, Nat.sub_self]; rfl
          conv => whnf
          refine .mk (α := {i : Nat // i ≤ nd ∧ R = firstS (fun i => withinS (df i) 0 1000) (nd - i) i}) (fun i => ⟨[(5, .int .i64 i.1), (1, .ptr 0 1 0)], [(1, [.lst none 1 nd fun i => [.int .i64 (lf i)], .lst none 1 nd fun i => [.int .i64 (df i)]])], up⟩) (fun i => nd - i.1) ⟨0, Nat.zero_le _, hz⟩ ⟨⟨leV_refl _, leV_refl _, trivial⟩, ⟨leL_refl _, trivial⟩, rfl, rfl⟩ ?_
          rintro ⟨j, hj, hg⟩
          conv => whnf
          split
          · rename_i hb
            have hlt : j < nd := by
              have hb' : decide ((j : Int) < nd) = true := hb
              simpa using hb'
            have hstep : firstS (fun i => withinS (df i) 0 1000) (nd - j) j = orE (withinS (df j) 0 1000) (firstS (fun i => withinS (df i) 0 1000) (nd - (j + 1)) (j + 1)) := by
              rw [show nd - j = (nd - (j + 1)) + 1 by omega]; rfl
            have hw : w64 ((j : Int) + 1) = ((j + 1 : Nat) : Int) := by rw [w64, wrap_in] <;> omega
            conv => whnf
            split
            rotate_left
            · rename_i h
              have h' : decide ((j : Int) < nd) = false := h
              simp at h' <;> omega
            conv => whnf
            refine .mk _ _ _ _ _ (leL_refl _) (c_CheckRange _ _ _ _) rfl ?_
            conv => whnf
            split
            · rename_i h
              have h : (withinS (df j) 0 1000 != 0) = true := h
              conv => whnf
              refine ⟨?_, rfl⟩
              show IV.int .i64 (withinS (df j) 0 1000) = _
              rw [hg, hstep, orE_pos h]
            · rename_i h
              have h : (withinS (df j) 0 1000 != 0) = false := h
              conv => whnf
              exact ⟨⟨j + 1, hlt, by rw [hg, hstep, orE_neg h]⟩, ⟨⟨leV_int hw, leV_refl _, trivial⟩, ⟨leL_refl _, trivial⟩, rfl, rfl⟩, (by show nd - (j + 1) < nd - j; omega)⟩
          · rename_i hb
            have : j = nd := by
              have hb' : decide ((j : Int) < nd) = false := hb
              simp at hb'; omega
            conv => whnf
            refine ⟨?_, rfl⟩
            rw [hg, this, Nat.sub_self]; rfl
theorem bladeS_eq3 (nl nd nr : Nat) (lf df r1 r2 r3 r4 : Nat → Int) : bladeS nl lf nd df nr r1 r2 r3 r4 =
    orE (polarS nl lf nd df) (orE (bif (nr : Int) == 0 then 12 else 0) (orE (bif decide ((nr : Int) > 16) then 5 else 0) (firstS (ringAt r1 r2 r3 r4) nr 0))) := rfl
theorem c_rCheckBlade (up : List Ces) (b : Bl) : Cs gl n_nacelleref03_CheckBlade up [b.iv] (.int .i64 b.err) up := by
  obtain ⟨nl, nd, nr, lf, df, r1, r2, r3, r4⟩ := b
  refine mk h_nacelleref03_CheckBlade rfl rfl ?_
  show ibody _ _ _ _ _ fun r up' => r = .int .i64 (bladeS nl lf nd df nr r1 r2 r3 r4) ∧ _
  rw [bladeS_eq3]
  conv => whnf
  refine .mk _ _ _ _ _ (leL_refl _) (c_rCheckPolar _ _ _ _ _) rfl ?_
  conv => whnf
  split
  · rename_i h
    have h : (polarS nl lf nd df != 0) = true := h
    conv => whnf
    refine ⟨?_, rfl⟩
    rw [orE_pos h]
  · rename_i h
    have h : (polarS nl lf nd df != 0) = false := h
    rw [orE_neg h]
    clear h
    conv => whnf
    split
    · rename_i h
      have h : ((nr : Int) == 0) = true := h
      conv => whnf
      refine ⟨?_, rfl⟩
      rw [h]; rfl
    · rename_i h1
      have h1 : ((nr : Int) == 0) = false := h1
      rw [h1]
      conv => whnf
      split
      · rename_i h
        have h : decide ((nr : Int) > 16) = true := h
        conv => whnf
        refine ⟨?_, rfl⟩
        rw [h]; rfl
      · rename_i h2
        have h2 : decide ((nr : Int) > 16) = false := h2
        rw [h2]
        have h2' : nr ≤ 16 := by simp at h2; omega
        obtain ⟨R, hR⟩ : ∃ R, R = firstS (ringAt r1 r2 r3 r4) nr 0 := ⟨_, rfl⟩
        rw [show orE (bif false then 12 else 0) (orE (bif false then 5 else 0) (firstS (ringAt r1 r2 r3 r4) nr 0)) = R from hR.symm]
        conv => whnf
        refine .mk (α := {i : Nat // i ≤ nr ∧ R = firstS (ringAt r1 r2 r3 r4) (nr - i) i}) (fun i => ⟨[(4, .int .i64 i.1), (1, .ptr 0 1 0)], [(1, [.lst none 1 nl fun i => [.int .i64 (lf i)], .lst none 1 nd fun i => [.int .i64 (df i)], .lst none 4 nr fun i => [.int .i64 (r1 i), .int .i64 (r2 i), .int .i64 (r3 i), .int .i64 (r4 i)]])], up⟩) (fun i => nr - i.1) ⟨0, Nat.zero_le _, hR⟩ ⟨⟨leV_refl _, leV_refl _, trivial⟩, ⟨leL_refl _, trivial⟩, rfl, rfl⟩ ?_
        rintro ⟨i, hi, hf⟩
        conv => whnf
        split
        · rename_i hb
          have hlt : i < nr := by
            have hb' : decide ((i : Int) < nr) = true := hb
            simpa using hb'
          have hstep : firstS (ringAt r1 r2 r3 r4) (nr - i) i = orE (ringAt r1 r2 r3 r4 i) (firstS (ringAt r1 r2 r3 r4) (nr - (i + 1)) (i + 1)) := by
            rw [show nr - i = (nr - (i + 1)) + 1 by omega]; rfl
          have hm : w64 ((i : Int) - 1) = (i : Int) - 1 := by rw [w64, wrap_in] <;> omega
          have hw : w64 ((i : Int) + 1) = ((i + 1 : Nat) : Int) := by rw [w64, wrap_in] <;> omega
          conv => whnf
          split
          rotate_left
          · rename_i h
            have h' : decide ((i : Int) < nr) = false := h
            simp at h' <;> omega
          conv => whnf
          refine .mk 14 (by kernel_rfl) ?_
          conv => whnf
          first | refine CALLQ.mk _ _ _ (leL_refl _) (c_CheckRange _ _ _ _) rfl ?_ | refine CALL0.mk _ _ _ _ _ (leL_refl _) (c_CheckRange _ _ _ _) rfl ?_
          conv => whnf
          first | refine CALLQ.mk _ _ _ (leL_refl _) (c_CheckRange _ _ _ _) rfl ?_ | refine CALL0.mk _ _ _ _ _ (leL_refl _) (c_CheckRange _ _ _ _) rfl ?_
          conv => whnf
          first | refine CALLQ.mk _ _ _ (leL_refl _) (c_CheckRange _ _ _ _) rfl ?_ | refine CALL0.mk _ _ _ _ _ (leL_refl _) (c_CheckRange _ _ _ _) rfl ?_
          conv => whnf
          first | refine CALLQ.mk _ _ _ (leL_refl _) (c_CheckRange _ _ _ _) rfl ?_ | refine CALL0.mk _ _ _ _ _ (leL_refl _) (c_CheckRange _ _ _ _) rfl ?_
          conv => whnf
          first | refine CALLQ.mk _ _ _ (leL_refl _) (c_rf4 _ _ _ _ _ _ rfl rfl rfl rfl) rfl ?_ | refine CALL0.mk _ _ _ _ _ (leL_refl _) (c_rf4 _ _ _ _ _ _ rfl rfl rfl rfl) rfl ?_
          conv => whnf
          split
          · rename_i h
            have h : (ringS (r1 i) (r2 i) (r3 i) (r4 i) != 0) = true := h
            have hl : ringAt r1 r2 r3 r4 i = ringS (r1 i) (r2 i) (r3 i) (r4 i) := orE_pos h
            conv => whnf
            refine ⟨?_, rfl⟩
            show IV.int .i64 (ringS (r1 i) (r2 i) (r3 i) (r4 i)) = _
            rw [hf, hstep, hl, orE_pos h]
          · rename_i h
            have h : (ringS (r1 i) (r2 i) (r3 i) (r4 i) != 0) = false := h
            have hl : ringAt r1 r2 r3 r4 i = bif decide (0 < i) && decide (r1 i ≤ r1 (i - 1)) then 11 else 0 := orE_neg h
            conv => whnf
            refine .mk 14 (by kernel_rfl) ?_
            conv => whnf
            split
            · rename_i h0
              have h0 : decide ((i : Int) > 0) = true := h0
              have h0' : 0 < i := by simpa using h0
              rw [decide_eq_true h0', Bool.true_and] at hl
              conv => whnf
              rw [show IntKind.i64.wrap ((i : Int) - 1) = ((i - 1 : Nat) : Int) by show w64 _ = _; rw [hm]; omega]
              split
              rotate_left
              · rename_i h
                have h' : decide (0 ≤ ((i - 1 : Nat) : Int)) = false := h
                simp at h' <;> omega
              conv => whnf
              split
              rotate_left
              · rename_i h
                have h' : decide (((i - 1 : Nat) : Int) < nr) = false := h
                simp at h' <;> omega
              conv => whnf
              split
              · rename_i g
                have g : decide (r1 i ≤ r1 (i - 1)) = true := g
                rw [g] at hl
                conv => whnf
                refine ⟨?_, rfl⟩
                rw [hf, hstep, hl]; rfl
              · rename_i g
                have g : decide (r1 i ≤ r1 (i - 1)) = false := g
                rw [g] at hl
                conv => whnf
                exact ⟨⟨i + 1, hlt, by rw [hf, hstep, hl]; rfl⟩, ⟨⟨leV_int hw, leV_refl _, trivial⟩, ⟨leL_refl _, trivial⟩, rfl, rfl⟩, (by show nr - (i + 1) < nr - i; omega)⟩
            · rename_i h0
              have h0 : decide ((i : Int) > 0) = false := h0
              have h0' : ¬ 0 < i := by simpa using h0
              rw [decide_eq_false h0', Bool.false_and] at hl
              conv => whnf
              exact ⟨⟨i + 1, hlt, by rw [hf, hstep, hl]; rfl⟩, ⟨⟨leV_int hw, leV_refl _, trivial⟩, ⟨leL_refl _, trivial⟩, rfl, rfl⟩, (by show nr - (i + 1) < nr - i; omega)⟩
        · rename_i hb
          have : i = nr := by
            have hb' : decide ((i : Int) < nr) = false := hb
            simp at hb'; omega
          conv => whnf
          refine ⟨?_, rfl⟩
          rw [hf, this, Nat.sub_self]; rfl
def Bl.short (b : Bl) : Bool :=
  (decide ((b.nl : Int) ≤ 5) || (b.nl : Int) == 33) && ((decide ((b.nd : Int) ≤ 5) || (b.nd : Int) == 33) && (decide ((b.nr : Int) ≤ 3) || (b.nr : Int) == 17))
theorem c_Short (up : List Ces) (b : Bl) : Cs gl n_nacelleref03_Short up [b.iv] (.bool b.short) up := by
  refine mk h_nacelleref03_Short rfl rfl ?_
  conv => whnf
  repeat' (split <;> (conv => whnf))
  all_goals (refine ⟨?_, rfl⟩; simp_all [Bl.short] <;> omega)
end Go.Proofs.YtfoenhiohhmnlaaGreatDoor.Ix

namespace Go.Proofs.YtfoenhiohhmnlaaGreatDoor.Ix
open Go.Proofs
set_option maxRecDepth 100000
set_option linter.unusedVariables false
set_option linter.unusedSimpArgs false
variable {gl : Nat → IV}
abbrev bladeO (b : Bl) (x y z : Nat) : IV :=
  .agg [.lst (some x) 1 b.nl fun i => [.int .i64 (b.lf i)], .lst (some y) 1 b.nd fun i => [.int .i64 (b.df i)], .lst (some z) 4 b.nr fun i => [.int .i64 (b.r1 i), .int .i64 (b.r2 i), .int .i64 (b.r3 i), .int .i64 (b.r4 i)]]
theorem c_blade (up : List Ces) (b : Bl) (hl : b.nl ≤ 1000000) (hd : b.nd ≤ 1000000) (hr : b.nr ≤ 1000000) : Cs gl n_nacellelaw03_blade up [b.iv] (bladeO b 10 15 29) up := by
  refine mk h_nacellelaw03_blade rfl rfl ?_
  conv => whnf
  refine .mk 14 (by kernel_rfl) ?_
  conv => whnf
  split
  rotate_left
  · rename_i h
    have h' : decide (b.nl ≤ 1073741824) = false := h
    simp at h' <;> omega
  conv => whnf
  split
  rotate_left
  · rename_i h
    have h' : decide (b.nd ≤ 1073741824) = false := h
    simp at h' <;> omega
  conv => whnf
  let R : Nat → List IV := fun i => [.int .i64 (b.r1 i), .int .i64 (b.r2 i), .int .i64 (b.r3 i), .int .i64 (b.r4 i)]
  refine .mk (α := {k : Nat // k ≤ b.nr}) (fun k => ⟨[(21, .int .i64 k.1), (20, .int .i64 b.nr), (19, .lst none 4 b.nr R), (2, .ptr 0 2 0), (3, .ptr 0 3 0)],
    [(3, [.lst (some 10) 1 b.nl fun i => [.int .i64 (b.lf i)], .lst (some 15) 1 b.nd fun i => [.int .i64 (b.df i)], .lst (some 29) 4 k.1 R]), (2, [.nilS, .nilS, .nilS])], up⟩) (fun k => b.nr - k.1) ⟨0, Nat.zero_le _⟩ ⟨?_, ?_, rfl, rfl⟩ ?_
  · exact ⟨leV_refl _, leV_refl _, leV_refl _, leV_refl _, leV_refl _, trivial⟩
  · exact ⟨⟨leV_refl _, leV_refl _, rfl, trivial⟩, leL_refl _, trivial⟩
  · rintro ⟨k, hk⟩
    have hw : w64 ((k : Int) + 1) = ((k + 1 : Nat) : Int) := by rw [w64, wrap_in] <;> omega
    conv => whnf
    split
    · rename_i hb
      have hlt : k < b.nr := by
        have hb' : decide ((k : Int) < b.nr) = true := hb
        simpa using hb'
      conv => whnf
      split
      rotate_left
      · rename_i h
        have h' : decide ((k : Int) < b.nr) = false := h
        simp at h' <;> omega
      conv => whnf
      split
      rotate_left
      · rename_i h
        have h' : decide (k + 1 ≤ 1073741824) = false := h
        simp at h' <;> omega
      conv => whnf
      refine ⟨⟨k + 1, hlt⟩, ⟨⟨leV_int hw, leV_refl _, leV_refl _, leV_refl _, leV_refl _, trivial⟩, ⟨⟨leV_refl _, leV_refl _, ⟨.inr rfl, rfl, rfl, fun j hj => ?_⟩, trivial⟩, leL_refl _, trivial⟩, rfl, rfl⟩, (by show b.nr - (k + 1) < b.nr - k; omega)⟩
      show (if j < k then R j else litF 4 (R k) (j - k)) = R j
      split
      · rfl
      · have : j = k := by have : j < k + 1 := hj; omega
        subst this
        rw [Nat.sub_self]
        rfl
    · rename_i hb
      have : k = b.nr := by
        have hb' : decide ((k : Int) < b.nr) = false := hb
        simp at hb'; omega
      subst this
      conv => whnf
      exact ⟨rfl, rfl⟩
end Go.Proofs.YtfoenhiohhmnlaaGreatDoor.Ix

namespace Go.Proofs.YtfoenhiohhmnlaaGreatDoor.Ix
open Go.Proofs
set_option maxRecDepth 100000
set_option linter.unusedVariables false
set_option linter.unusedSimpArgs false
variable {gl : Nat → IV}
def parA (o : Option Nat) (l : List UInt8) : IV := if l = [] then .tup [nilB0, .int .i64 0, .int .i64 26] else parR o (splitL 10 l)
theorem c_pParseA (up : List Ces) (hp : gl g_internal_strconv_uint64pow10 = powI) (h2 : gl g_strconv_ErrSyntax = errI) (h3 : gl g_strconv_ErrRange = errI) (l : List UInt8) (hl : l.length ≤ 4096) :
    Cs gl n_rotor_Parse up [.str (bytesS l)] (parA (some 24) l) up := by
  unfold parA
  by_cases h : l = []
  · subst h
    rw [if_pos rfl]
    obtain ⟨s, hs⟩ : ∃ s, s = bytesS [] := ⟨_, rfl⟩
    have hsz : s.size = 0 := by rw [hs]; rfl
    rw [← hs]
    have q0 : decide ((s.size : Int) > 4096) = false := decide_eq_false (by omega)
    have qe : (s.toList == ByteArray.empty.toList) = true := by
      rw [hs]; exact beq_self_eq_true _
    refine mk h_rotor_Parse rfl rfl ?_
    conv => whnf
    split
    · rename_i h
      exact Bool.noConfusion ((q0).symm.trans h)
    rename_i hN
    clear hN
    conv => whnf
    split
    rotate_left
    · rename_i h
      exact Bool.noConfusion ((qe).symm.trans h)
    rename_i hN
    clear hN
    conv => whnf
    exact ⟨rfl, rfl⟩
  · rw [if_neg h]
    exact c_pParse up hp h2 h3 l hl h
abbrev toldI (b : Bl) : IV :=
  .agg [.lst none 1 b.nl fun i => [.int .i64 (b.lf i)], .lst none 1 b.nd fun i => [.int .i64 (b.df i)], .lst (some 20) 4 b.nr fun i => [.int .i64 (b.r1 i), .int .i64 (b.r2 i), .int .i64 (b.r3 i), .int .i64 (b.r4 i)]]
theorem c_toldB (up : List Ces) (b : Bl) (hn : b.nr ≤ 1000000) : Cs gl n_nacellelaw03_told up [b.iv] (toldI b) up := by
  obtain ⟨nl, nd, n, lf, df, r1, r2, r3, r4⟩ := b
  have hn : n ≤ 1000000 := hn
  refine mk h_nacellelaw03_told rfl rfl ?_
  conv => whnf
  let R : Nat → List IV := fun i => [.int .i64 (r1 i), .int .i64 (r2 i), .int .i64 (r3 i), .int .i64 (r4 i)]
  refine .mk (α := {k : Nat // k ≤ n}) (fun k => ⟨[(12, .int .i64 k.1), (11, .int .i64 n), (10, .lst none 4 n R), (2, .ptr 0 2 0), (3, .ptr 0 3 0)],
    [(3, [.lst none 1 nl fun i => [.int .i64 (lf i)], .lst none 1 nd fun i => [.int .i64 (df i)], .lst (some 20) 4 k.1 R]), (2, [.nilS, .nilS, .nilS])], up⟩) (fun k => n - k.1) ⟨0, Nat.zero_le _⟩ ⟨?_, ?_, rfl, rfl⟩ ?_
  · exact ⟨leV_refl _, leV_refl _, leV_refl _, leV_refl _, leV_refl _, trivial⟩
  · exact ⟨⟨leV_refl _, leV_refl _, rfl, trivial⟩, leL_refl _, trivial⟩
  · rintro ⟨k, hk⟩
    have hw : w64 ((k : Int) + 1) = ((k + 1 : Nat) : Int) := by rw [w64, wrap_in] <;> omega
    by_cases hlt : k < n
    · have q : decide ((k : Int) < n) = true := decide_eq_true (by omega)
      conv => whnf
      split
      rotate_left
      · rename_i h
        exact Bool.noConfusion ((q).symm.trans h)
      rename_i hN
      clear hN
      conv => whnf
      split
      rotate_left
      · rename_i h
        have h' : decide ((k : Int) < n) = false := h
        simp at h' <;> omega
      conv => whnf
      split
      rotate_left
      · rename_i h
        have h' : decide (k + 1 ≤ 1073741824) = false := h
        simp at h' <;> omega
      conv => whnf
      refine ⟨⟨k + 1, hlt⟩, ⟨⟨leV_int hw, leV_refl _, leV_refl _, leV_refl _, leV_refl _, trivial⟩, ⟨⟨leV_refl _, leV_refl _, ⟨.inr rfl, rfl, rfl, fun j hj => ?_⟩, trivial⟩, leL_refl _, trivial⟩, rfl, rfl⟩, (by show n - (k + 1) < n - k; omega)⟩
      show (if j < k then R j else litF 4 (R k) (j - k)) = R j
      split
      · rfl
      · have : j = k := by have : j < k + 1 := hj; omega
        subst this
        rw [Nat.sub_self]
        rfl
    · have q : decide ((k : Int) < n) = false := decide_eq_false (by omega)
      have : k = n := by omega
      subst this
      conv => whnf
      split
      · rename_i h
        exact Bool.noConfusion ((q).symm.trans h)
      rename_i hN
      clear hN
      conv => whnf
      exact ⟨rfl, rfl⟩
theorem c_rSameIntsR (up : List Ces) (n : Nat) (hn : n ≤ 10000000) (f : Nat → Int) :
    Cs gl n_nacelleref01_SameInts up [.lst none 1 n fun i => [.int .i64 (f i)], .lst none 1 n fun i => [.int .i64 (f i)]] (.bool true) up := by
  refine mk h_nacelleref01_SameInts rfl rfl ?_
  have q0 : ((n : Int) != n) = false := by simp
  conv => whnf
  split
  · rename_i h
    exact Bool.noConfusion ((q0).symm.trans h)
  rename_i hN
  clear hN
  conv => whnf
  refine .mk (α := {i : Nat // i ≤ n}) (fun i => ⟨[(5, .int .i64 i.1), (1, .lst none 1 n fun i => [.int .i64 (f i)]), (0, .lst none 1 n fun i => [.int .i64 (f i)])], [], up⟩) (fun i => n - i.1) ⟨0, Nat.zero_le _⟩ ⟨?_, ?_, rfl, rfl⟩ ?_
  · exact ⟨leV_refl _, leV_refl _, leV_refl _, trivial⟩
  · exact trivial
  rintro ⟨i, hi⟩
  have hw : w64 ((i : Int) + 1) = ((i + 1 : Nat) : Int) := by rw [w64, wrap_in] <;> omega
  by_cases hlt : i < n
  · have q : decide ((i : Int) < (n : Int)) = true := decide_eq_true (by omega)
    have ne : (f i != f i) = false := by simp
    conv => whnf
    split
    rotate_left
    · rename_i h
      exact Bool.noConfusion ((q).symm.trans h)
    rename_i hN
    clear hN
    conv => whnf
    refine DRAW.seek ?_
    repeat (first | refine TRYD.take ?_ | refine TRYD.next ?_)
    conv => whnf
    split
    rotate_left
    · rename_i h
      exact Bool.noConfusion ((q).symm.trans h)
    rename_i hN
    clear hN
    conv => whnf
    split
    rotate_left
    · rename_i h
      exact Bool.noConfusion ((q).symm.trans h)
    rename_i hN
    clear hN
    conv => whnf
    split
    · rename_i h
      exact Bool.noConfusion ((ne).symm.trans h)
    rename_i hN
    clear hN
    conv => whnf
    exact ⟨⟨i + 1, hlt⟩, ⟨⟨leV_int hw, leV_refl _, leV_refl _, trivial⟩, trivial, rfl, rfl⟩, (by show n - (i + 1) < n - i; omega)⟩
  · have q : decide ((i : Int) < (n : Int)) = false := decide_eq_false (by omega)
    conv => whnf
    split
    · rename_i h
      exact Bool.noConfusion ((q).symm.trans h)
    rename_i hN
    clear hN
    conv => whnf
    exact ⟨rfl, rfl⟩
theorem c_rSameBladeR (up : List Ces) (b : Bl) (h1 : b.nl ≤ 1000000) (h2 : b.nd ≤ 1000000) (h3 : b.nr ≤ 1000000) : Cs gl n_nacelleref03_SameBlade up [b.iv, b.iv] (.bool true) up := by
  obtain ⟨nl, nd, n, lf, df, r1, r2, r3, r4⟩ := b
  have h1 : nl ≤ 1000000 := h1
  have h2 : nd ≤ 1000000 := h2
  have h3 : n ≤ 1000000 := h3
  have hA := fun up => c_rSameIntsR (gl := gl) up nl (by omega) lf
  have hB := fun up => c_rSameIntsR (gl := gl) up nd (by omega) df
  refine mk h_nacelleref03_SameBlade rfl rfl ?_
  have q0 : ((n : Int) != n) = false := by simp
  conv => whnf
  repeat first
    | (refine DRAW.seek ?_; repeat (first | refine TRYD.take ?_ | refine TRYD.next ?_); conv => whnf)
    | (refine HOLD.mk (by first | exact trivial | exact ⟨⟨rfl, rfl⟩, trivial⟩ | exact ⟨⟨rfl, rfl⟩, ⟨rfl, rfl⟩, trivial⟩) ?_; (conv => whnf))
    | (refine CALL0.by (hA ..) rfl ?_; conv => whnf)
    | (refine CALLQ.mk _ _ _ (leL_refl _) (hA ..) rfl ?_; conv => whnf)
    | (refine CALL0.by (hB ..) rfl ?_; conv => whnf)
    | (refine CALLQ.mk _ _ _ (leL_refl _) (hB ..) rfl ?_; conv => whnf)
  split
  · rename_i h
    exact Bool.noConfusion ((q0).symm.trans h)
  rename_i hN
  clear hN
  conv => whnf
  let B : List IV := [.lst none 1 nl fun i => [.int .i64 (lf i)], .lst none 1 nd fun i => [.int .i64 (df i)], .lst none 4 n fun i => [.int .i64 (r1 i), .int .i64 (r2 i), .int .i64 (r3 i), .int .i64 (r4 i)]]
  refine .mk (α := {i : Nat // i ≤ n}) (fun i => ⟨[(5, .int .i64 i.1), (3, .ptr 0 3 0), (2, .ptr 0 2 0)], [(3, B), (2, B)], up⟩) (fun i => n - i.1) ⟨0, Nat.zero_le _⟩ ⟨?_, ?_, rfl, rfl⟩ ?_
  · exact ⟨leV_refl _, leV_refl _, leV_refl _, trivial⟩
  · exact ⟨leL_refl _, leL_refl _, trivial⟩
  rintro ⟨i, hi⟩
  have hw : w64 ((i : Int) + 1) = ((i + 1 : Nat) : Int) := by rw [w64, wrap_in] <;> omega
  by_cases hlt : i < n
  · have q : decide ((i : Int) < (n : Int)) = true := decide_eq_true (by omega)
    have e1 : (!(r1 i == r1 i && (r2 i == r2 i && (r3 i == r3 i && (r4 i == r4 i && true))))) = false := by simp
    conv => whnf
    split
    rotate_left
    · rename_i h
      exact Bool.noConfusion ((q).symm.trans h)
    rename_i hN
    clear hN
    conv => whnf
    refine DRAW.seek ?_
    repeat (first | refine TRYD.take ?_ | refine TRYD.next ?_)
    conv => whnf
    split
    rotate_left
    · rename_i h
      exact Bool.noConfusion ((q).symm.trans h)
    rename_i hN
    clear hN
    conv => whnf
    split
    rotate_left
    · rename_i h
      exact Bool.noConfusion ((q).symm.trans h)
    rename_i hN
    clear hN
    conv => whnf
    split
    · rename_i h
      exact Bool.noConfusion ((e1).symm.trans h)
    rename_i hN
    clear hN
    conv => whnf
    exact ⟨⟨i + 1, hlt⟩, ⟨⟨leV_int hw, leV_refl _, leV_refl _, trivial⟩, ⟨leL_refl _, leL_refl _, trivial⟩, rfl, rfl⟩, (by show n - (i + 1) < n - i; omega)⟩
  · have q : decide ((i : Int) < (n : Int)) = false := decide_eq_false (by omega)
    conv => whnf
    split
    · rename_i h
      exact Bool.noConfusion ((q).symm.trans h)
    rename_i hN
    clear hN
    conv => whnf
    exact ⟨rfl, rfl⟩
end Go.Proofs.YtfoenhiohhmnlaaGreatDoor.Ix

namespace Go.Proofs.YtfoenhiohhmnlaaGreatDoor.Ix
open Go.Proofs
set_option maxRecDepth 100000
set_option linter.unusedVariables false
set_option linter.unusedSimpArgs false
variable {gl : Nat → IV}
abbrev loadsI (o : Option Nat) (n : Nat) (x y z : Nat → Int) : IV := .lst o 3 n fun i => [.int .i64 (x i), .int .i64 (y i), .int .i64 (z i)]
theorem c_mapped3 (up : List Ces) (n : Nat) (hn : n ≤ 1000000) (x y z φ : Nat → Int) (k : Nat) (hk : ∀ up i, i < n → Cs gl k up [.agg [.int .i64 (x i), .int .i64 (y i), .int .i64 (z i)]] (.int .i64 (φ i)) up) :
    Cs gl n_rotor_mapped_3_int_api_Errno up [loadsI none n x y z, .fn k [] []] (.lst (some 19) 1 n fun i => [.int .i64 (φ i)]) up := by
  refine mk h_rotor_mapped_3_int_api_Errno rfl rfl ?_
  conv => whnf
  refine .mk (α := {i : Nat // i ≤ n}) (fun i => ⟨[(10, .int .i64 i.1), (9, .int .i64 n), (8, loadsI none n x y z), (5, .lst (some 19) 1 i.1 fun i => [.int .i64 (φ i)]), (1, .fn k [] [])], [], up⟩) (fun i => n - i.1) ⟨0, Nat.zero_le _⟩ ⟨?_, trivial, rfl, rfl⟩ ?_
  · exact ⟨leV_refl _, leV_refl _, leV_refl _, rfl, leV_refl _, trivial⟩
  · rintro ⟨i, hi⟩
    conv => whnf
    split
    · rename_i hb
      have hlt : i < n := by simpa using hb
      conv => whnf
      split
      rotate_left
      · rename_i h
        have h' : decide ((i : Int) < n) = false := h
        simp at h' <;> omega
      conv => whnf
      refine .mk _ _ _ _ _ (leL_refl _) (hk _ i hlt) rfl ?_
      conv => whnf
      split
      rotate_left
      · rename_i h
        have h' : decide (i + 1 ≤ 1073741824) = false := h
        simp at h' <;> omega
      conv => whnf
      refine ⟨⟨i + 1, hlt⟩, ⟨⟨leV_int ?_, leV_refl _, leV_refl _, ⟨.inr rfl, rfl, rfl, fun j hj => ?_⟩, leV_refl _, trivial⟩, trivial, rfl, rfl⟩, (by show n - (i + 1) < n - i; omega)⟩
      · show w64 ((i : Int) + 1) = ((i + 1 : Nat) : Int)
        rw [w64, wrap_in] <;> omega
      · show (if j < i then [IV.int .i64 (φ j)] else litF 1 [.int .i64 (φ i)] (j - i)) = [IV.int .i64 (φ j)]
        split
        · rfl
        · have : j = i := by have : j < i + 1 := hj; omega
          subst this; rw [Nat.sub_self]; rfl
    · rename_i hb
      have : i = n := by simp at hb; omega
      subst this
      conv => whnf
      exact ⟨rfl, rfl⟩
def recE (n : Nat) (x y z : Nat → Int) : Int := firstS (fun i => loadS (x i) (y i) (z i)) n 0
def recR (n : Nat) (x y z : Nat → Int) (φ : Int → Int → Nat → Int × Int) : IV :=
  bif decide ((n : Int) > 400) then .tup [.agg [.int .i64 0, .int .i64 0], .int .i64 5] else
    bif recE n x y z != 0 then .tup [.agg [.int .i64 0, .int .i64 0], .int .i64 (recE n x y z)] else
      .tup [.agg [.int .i64 (sumTo (fun i => (φ (x i - z i) (y i - z i) i).1) n), .int .i64 (sumTo (fun i => (φ (x i - z i) (y i - z i) i).2) n)], .int .i64 0]
theorem recE_ok {n : Nat} {x y z : Nat → Int} (h : recE n x y z = 0) : ∀ i, i < n → (-1000000 ≤ x i ∧ x i ≤ 1000000) ∧ (-1000000 ≤ y i ∧ y i ≤ 1000000) ∧ (-1000000 ≤ z i ∧ z i ≤ 1000000) := fun i hi => by
  unfold recE at h
  rw [firstS_zero] at h
  exact loadS_ok (h i (by omega) (by omega))
theorem c_record (up : List Ces) (n : Nat) (x y z : Nat → Int) (F : Nat) (φ : Int → Int → Nat → Int × Int) (h00 : ∀ t, φ 0 0 t = (0, 0))
    (hφ : ∀ a b t, -2000000 ≤ a → a ≤ 2000000 → -2000000 ≤ b → b ≤ 2000000 → (-4000000 ≤ (φ a b t).1 ∧ (φ a b t).1 ≤ 4000000) ∧ (-4000000 ≤ (φ a b t).2 ∧ (φ a b t).2 ≤ 4000000))
    (hF : ∀ up a b (t : Nat), t < 400 → -2000000 ≤ a → a ≤ 2000000 → -2000000 ≤ b → b ≤ 2000000 → Cs gl F up [.agg [.int .i64 a, .int .i64 b], .int .i64 t] (.agg [.int .i64 (φ a b t).1, .int .i64 (φ a b t).2]) up) :
    Cs gl n_rotor_record up [loadsI none n x y z, .fn F [] []] (recR n x y z φ) up := by
  refine mkR [28] h_rotor_record rfl rfl ?_
  unfold recR
  conv => whnf
  split
  · rename_i h
    have h : decide ((n : Int) > 400) = true := h
    rw [h]
    conv => whnf
    exact ⟨rfl, rfl⟩
  · rename_i h
    have h : decide ((n : Int) > 400) = false := h
    rw [h, cond_false]
    have hn : n ≤ 400 := by simp at h; omega
    conv => whnf
    refine .mk _ _ _ _ _ (leL_refl _) (c_mapped3 _ n (by omega) x y z (fun i => loadS (x i) (y i) (z i)) _ (fun up i _ => c_checkLoads up _ _ _)) rfl ?_
    conv => whnf
    refine .mk _ _ _ _ _ (leL_refl _) (c_first _ n (by omega) fun i => loadS (x i) (y i) (z i)) rfl ?_
    conv => whnf
    split
    · rename_i h
      have h : (recE n x y z != 0) = true := h
      rw [h]
      conv => whnf
      exact ⟨rfl, rfl⟩
    · rename_i h
      have h : (recE n x y z != 0) = false := h
      rw [h, cond_false]
      have hok := recE_ok (show recE n x y z = 0 by simpa using h)
      have hb : ∀ i, i < n → (-4000000 ≤ (φ (x i - z i) (y i - z i) i).1 ∧ (φ (x i - z i) (y i - z i) i).1 ≤ 4000000) ∧ (-4000000 ≤ (φ (x i - z i) (y i - z i) i).2 ∧ (φ (x i - z i) (y i - z i) i).2 ≤ 4000000) := fun i hi => by
        have := hok i hi
        exact hφ _ _ i (by omega) (by omega) (by omega) (by omega)
      conv => whnf
      split
      rotate_left
      · rename_i h
        have h' : decide ((n : Int) ≤ 1073741824) = false := h
        simp at h' <;> omega
      conv => whnf
      split
      rotate_left
      · rename_i h
        have h' : decide ((n : Int) = n) = false := h
        simp at h' <;> omega
      conv => whnf
      split
      rotate_left
      · rename_i h
        have h' : decide (n = ((n : Int)).toNat) = false := h
        simp at h' <;> omega
      conv => whnf
      refine .mk (α := {k : Nat // k ≤ n}) (fun k => ⟨[(31, .int .i64 k.1), (30, .int .i64 n), (29, loadsI none n x y z), (1, .fn F [] []), (4, .ptr 0 4 0), (8, .ptr 0 8 0)],
        [(8, [.int .i64 (sumTo (fun i => (φ (x i - z i) (y i - z i) i).1) k.1), .int .i64 (sumTo (fun i => (φ (x i - z i) (y i - z i) i).2) k.1)]), (4, [.int .i64 0, .int .i64 0])], up⟩) (fun k => n - k.1) ⟨0, Nat.zero_le _⟩ ⟨?_, ?_, rfl, rfl⟩ ?_
      · exact ⟨leV_refl _, leV_refl _, leV_view _ _ _ _, leV_refl _, leV_refl _, leV_refl _, trivial⟩
      · exact ⟨leL_refl _, leL_refl _, trivial⟩
      rintro ⟨k, hk⟩
      conv => whnf
      split
      · rename_i hb'
        have hlt : k < n := by
          have hb' : decide ((k : Int) < n) = true := hb'
          simpa using hb'
        have ho := hok k hlt
        have hq := hb k hlt
        have hw : w64 ((k : Int) + 1) = ((k + 1 : Nat) : Int) := by rw [w64, wrap_in] <;> omega
        have e1 : w64 (x k - z k) = x k - z k := by rw [w64, wrap_in] <;> omega
        have e2 : w64 (y k - z k) = y k - z k := by rw [w64, wrap_in] <;> omega
        have s1 := sumTo_bound (g := fun i => (φ (x i - z i) (y i - z i) i).1) (B := 4000000) k fun i hi => (hb i (by omega)).1
        have s2 := sumTo_bound (g := fun i => (φ (x i - z i) (y i - z i) i).2) (B := 4000000) k fun i hi => (hb i (by omega)).2
        have t1 : w64 (sumTo (fun i => (φ (x i - z i) (y i - z i) i).1) k + (φ (x k - z k) (y k - z k) k).1) = sumTo (fun i => (φ (x i - z i) (y i - z i) i).1) (k + 1) := by
          rw [w64, wrap_in]; rfl; omega; omega
        have t2 : w64 (sumTo (fun i => (φ (x i - z i) (y i - z i) i).2) k + (φ (x k - z k) (y k - z k) k).2) = sumTo (fun i => (φ (x i - z i) (y i - z i) i).2) (k + 1) := by
          rw [w64, wrap_in]; rfl; omega; omega
        conv => whnf
        split
        rotate_left
        · rename_i h
          have h' : decide ((k : Int) < n) = false := h
          simp at h' <;> omega
        conv => whnf
        refine .mk _ _ _ _ _ (leL_refl _) (c_component _ _ _ _) rfl ?_
        conv => whnf
        split
        · rename_i h
          have h : (w64 (x k - z k) == 0 && (w64 (y k - z k) == 0 && true)) = true := h
          rw [e1, e2] at h
          simp at h
          have p1 : sumTo (fun i => (φ (x i - z i) (y i - z i) i).1) (k + 1) = sumTo (fun i => (φ (x i - z i) (y i - z i) i).1) k := by
            show sumTo _ k + (φ (x k - z k) (y k - z k) k).1 = _
            rw [h.1, h.2, h00]; simp
          have p2 : sumTo (fun i => (φ (x i - z i) (y i - z i) i).2) (k + 1) = sumTo (fun i => (φ (x i - z i) (y i - z i) i).2) k := by
            show sumTo _ k + (φ (x k - z k) (y k - z k) k).2 = _
            rw [h.1, h.2, h00]; simp
          conv => whnf
          exact ⟨⟨k + 1, hlt⟩, ⟨⟨leV_int hw, leV_refl _, leV_refl _, leV_refl _, leV_refl _, leV_refl _, trivial⟩, ⟨⟨leV_int p1.symm, leV_int p2.symm, trivial⟩, leL_refl _, trivial⟩, rfl, rfl⟩, (by show n - (k + 1) < n - k; omega)⟩
        · have hFw : ∀ up, Cs gl F up [.agg [.int .i64 (w64 (x k - z k)), .int .i64 (w64 (y k - z k))], .int .i64 k] (.agg [.int .i64 (φ (x k - z k) (y k - z k) k).1, .int .i64 (φ (x k - z k) (y k - z k) k).2]) up := fun up => by
            rw [e1, e2]
            exact hF up _ _ k (by omega) (by omega) (by omega) (by omega) (by omega)
          conv => whnf
          refine .mk _ _ _ _ _ (leL_refl _) (hFw _) rfl ?_
          conv => whnf
          exact ⟨⟨k + 1, hlt⟩, ⟨⟨leV_int hw, leV_refl _, leV_refl _, leV_refl _, leV_refl _, leV_refl _, trivial⟩, ⟨⟨leV_int t1, leV_int t2, trivial⟩, leL_refl _, trivial⟩, rfl, rfl⟩, (by show n - (k + 1) < n - k; omega)⟩
      · rename_i hb'
        have : k = n := by
          have hb' : decide ((k : Int) < n) = false := hb'
          simp at hb'; omega
        subst this
        conv => whnf
        exact ⟨rfl, rfl⟩
theorem c_Rot1 (up : List Ces) (a b t : Int) : Cs gl n_rotor_Rotating_1 up [.agg [.int .i64 a, .int .i64 b], .int .i64 t] (.agg [.int .i64 a, .int .i64 b]) up := by
  refine mk h_rotor_Rotating_1 rfl rfl ?_
  conv => whnf
  exact ⟨rfl, rfl⟩
def rotR (n : Nat) (x y z : Nat → Int) : IV := recR n x y z fun a b _ => (a, b)
def fixR (n : Nat) (x y z : Nat → Int) : IV := recR n x y z fun a b t => turnP a b t
theorem recR_tup (n : Nat) (x y z : Nat → Int) (φ : Int → Int → Nat → Int × Int) : ∃ A B E, recR n x y z φ = .tup [.agg [.int .i64 A, .int .i64 B], .int .i64 E] := by
  unfold recR
  cases decide ((n : Int) > 400) <;> cases recE n x y z != 0 <;> exact ⟨_, _, _, rfl⟩
theorem c_Rotating (up : List Ces) (n : Nat) (x y z : Nat → Int) : Cs gl n_rotor_Rotating up [loadsI none n x y z] (rotR n x y z) up := by
  refine mk h_rotor_Rotating rfl rfl ?_
  have h := fun up => c_record (gl := gl) up n x y z n_rotor_Rotating_1 (fun a b _ => (a, b)) (fun _ => rfl) (fun a b t h1 h2 h3 h4 => ⟨⟨by omega, by omega⟩, by omega, by omega⟩) (fun up a b t _ _ _ _ _ => c_Rot1 up a b t)
  unfold rotR
  obtain ⟨A, B, E, e⟩ := recR_tup n x y z fun a b _ => (a, b)
  rw [e] at h ⊢
  conv => whnf
  refine .mk _ _ _ _ _ (leL_refl _) (h _) rfl ?_
  conv => whnf
  exact ⟨rfl, rfl⟩
theorem c_Fixed (up : List Ces) (hg : gl g_rotor_roots = rootsI) (n : Nat) (x y z : Nat → Int) : Cs gl n_rotor_Fixed up [loadsI none n x y z] (fixR n x y z) up := by
  refine mk h_rotor_Fixed rfl rfl ?_
  have h := fun up => c_record (gl := gl) up n x y z n_rotor_Pair_turned (fun a b t => turnP a b t) (fun t => by unfold turnP; split; rfl; split <;> rfl)
    (fun a b t h1 h2 h3 h4 => by unfold turnP; split; exact ⟨⟨by simp only; omega, by simp only; omega⟩, by simp only; omega, by simp only; omega⟩; split <;> exact ⟨⟨by simp only; omega, by simp only; omega⟩, by simp only; omega, by simp only; omega⟩)
    (fun up a b t _ _ _ _ _ => c_turned up hg a b t (by omega) (by omega))
  unfold fixR
  obtain ⟨A, B, E, e⟩ := recR_tup n x y z fun a b t => turnP a b t
  rw [e] at h ⊢
  conv => whnf
  refine .mk _ _ _ _ _ (leL_refl _) (h _) rfl ?_
  conv => whnf
  exact ⟨rfl, rfl⟩
end Go.Proofs.YtfoenhiohhmnlaaGreatDoor.Ix

namespace Go.Proofs.YtfoenhiohhmnlaaGreatDoor.Ix
open Go.Proofs
set_option maxRecDepth 100000
set_option linter.unusedVariables false
set_option linter.unusedSimpArgs false
variable {gl : Nat → IV}
def inflR (b : Bl) (f : Fl) (ring a d : Int) : IV :=
  let e := orE (ringErr b f ring) (indErr a d)
  .tup [.int .i64 (bif e != 0 then 0 else b.infl f ring.toNat a d.toNat), .int .i64 e]
theorem c_Inflow (up : List Ces) (b : Bl) (f : Fl) (ring a d : Int) : Cs gl n_rotor_Inflow up [b.iv, f.iv, .int .i64 ring, .agg [.int .i64 a, .int .i64 d]] (inflR b f ring a d) up := by
  refine mk h_rotor_Inflow rfl rfl ?_
  unfold inflR
  simp only
  conv => whnf
  refine .mk 8 (by kernel_rfl) ?_
  conv => whnf
  first | refine CALLQ.mk _ _ _ (leL_refl _) (c_checkRing _ b f _) rfl ?_ | refine CALL0.mk _ _ _ _ _ (leL_refl _) (c_checkRing _ b f _) rfl ?_
  conv => whnf
  first | refine CALLQ.mk _ _ _ (leL_refl _) (c_IndCheck _ _ _) rfl ?_ | refine CALL0.mk _ _ _ _ _ (leL_refl _) (c_IndCheck _ _ _) rfl ?_
  conv => whnf
  first | refine CALLQ.mk _ _ _ (leL_refl _) (c_f2 _ _ _ _ rfl rfl) rfl ?_ | refine CALL0.mk _ _ _ _ _ (leL_refl _) (c_f2 _ _ _ _ rfl rfl) rfl ?_
  conv => whnf
  split
  · rename_i h
    have h' : (orE (ringErr b f ring) (indErr a d) != 0) = true := h
    conv => whnf
    refine ⟨?_, rfl⟩
    rw [h']; rfl
  · rename_i h
    have h' : (orE (ringErr b f ring) (indErr a d) != 0) = false := h
    have h0 : orE (ringErr b f ring) (indErr a d) = 0 := by simpa using h'
    rw [h']
    have hz := h0
    rw [orE_zero] at h0
    obtain ⟨g1, g2, g3, g4⟩ := ringErr_ok h0.1
    obtain ⟨n, rfl, k2, k3, k4⟩ := indErr_ok h0.2
    obtain ⟨_, _, _, ok⟩ := Bl.good g1 g2
    have hp := Int.pow_succ (2 : Int) n
    have hq := two_pos n
    conv => whnf
    refine .mk 12 (by kernel_rfl) ?_
    conv => whnf
    split
    rotate_left
    · rename_i h
      have h' : decide (0 ≤ ring) = false := h
      simp at h' <;> omega
    conv => whnf
    split
    rotate_left
    · rename_i h
      have h' : decide (ring < b.nr) = false := h
      simp at h' <;> omega
    conv => whnf
    first | refine CALLQ.mk _ _ _ (leL_refl _) (c_inflP _ b f ring.toNat (ok _ (by omega)) a _ (n + 1) (by omega) k3 (by omega) rfl) rfl ?_ | refine CALL0.mk _ _ _ _ _ (leL_refl _) (c_inflP _ b f ring.toNat (ok _ (by omega)) a _ (n + 1) (by omega) k3 (by omega) rfl) rfl ?_
    conv => whnf
    refine ⟨?_, rfl⟩
    rw [hz]; rfl
def timesR (a b c d : Int) : IV :=
  let e := orE (pairS a b) (pairS c d)
  bif e != 0 then .tup [.agg [.int .i64 0, .int .i64 0], .int .i64 e] else .tup [.agg [.int .i64 (timesP a b c d).1, .int .i64 (timesP a b c d).2], .int .i64 0]
theorem c_Times (up : List Ces) (a b c d : Int) : Cs gl n_rotor_Times up [.agg [.int .i64 a, .int .i64 b], .agg [.int .i64 c, .int .i64 d]] (timesR a b c d) up := by
  refine mk h_rotor_Times rfl rfl ?_
  unfold timesR
  simp only
  conv => whnf
  refine .mk 6 (by kernel_rfl) ?_
  conv => whnf
  first | refine CALLQ.mk _ _ _ (leL_refl _) (c_PairCheck _ _ _) rfl ?_ | refine CALL0.mk _ _ _ _ _ (leL_refl _) (c_PairCheck _ _ _) rfl ?_
  conv => whnf
  first | refine CALLQ.mk _ _ _ (leL_refl _) (c_PairCheck _ _ _) rfl ?_ | refine CALL0.mk _ _ _ _ _ (leL_refl _) (c_PairCheck _ _ _) rfl ?_
  conv => whnf
  first | refine CALLQ.mk _ _ _ (leL_refl _) (c_f2 _ _ _ _ rfl rfl) rfl ?_ | refine CALL0.mk _ _ _ _ _ (leL_refl _) (c_f2 _ _ _ _ rfl rfl) rfl ?_
  conv => whnf
  split
  · rename_i h
    have h : (orE (pairS a b) (pairS c d) != 0) = true := h
    conv => whnf
    refine ⟨?_, rfl⟩
    rw [h]; rfl
  · rename_i h
    have h : (orE (pairS a b) (pairS c d) != 0) = false := h
    rw [h, cond_false]
    have h0 : orE (pairS a b) (pairS c d) = 0 := by simpa using h
    rw [orE_zero] at h0
    obtain ⟨k1, k2⟩ := pairS_ok h0.1
    obtain ⟨k3, k4⟩ := pairS_ok h0.2
    conv => whnf
    refine .mk _ _ _ _ _ (leL_refl _) (c_times _ _ _ _ _ k1 k2 k3 k4) rfl ?_
    conv => whnf
    exact ⟨rfl, rfl⟩
def pitchErr (x y : Int) : Int := orE (withinS x (-64) 64) (orE (withinS y (-64) 64) (bif decide (y < x) then 11 else 0))
theorem c_checkPitches (up : List Ces) (x y : Int) : Cs gl n_rotor_checkPitches up [.int .i64 x, .int .i64 y] (.int .i64 (pitchErr x y)) up := by
  refine mk h_rotor_checkPitches rfl rfl ?_
  conv => whnf
  refine .mk _ _ _ _ _ (leL_refl _) (c_within _ _ _ _) rfl ?_
  conv => whnf
  refine .mk _ _ _ _ _ (leL_refl _) (c_within _ _ _ _) rfl ?_
  conv => whnf
  refine .mk _ _ _ _ _ (leL_refl _) (c_when _ _ _) rfl ?_
  conv => whnf
  refine .mk _ _ _ _ _ (leL_refl _) (c_f3 _ _ _ _ _ rfl rfl rfl) rfl ?_
  conv => whnf
  exact ⟨rfl, rfl⟩
theorem pitchErr_ok {x y : Int} (h : pitchErr x y = 0) : -64 ≤ x ∧ x ≤ y ∧ y ≤ 64 := by
  unfold pitchErr at h
  simp only [orE_zero, withinS_zero] at h
  rw [bif_zero (by decide)] at h
  simp at h
  omega
def Fl.at (f : Fl) (p : Int) : Fl := ⟨f.w, f.s, p⟩
theorem Fl.at_err {f : Fl} (h : f.err = 0) {p : Int} (h1 : -64 ≤ p) (h2 : p ≤ 64) : (f.at p).err = 0 := by
  unfold Fl.err flowS at *
  simp only [orE_zero, withinS_zero] at *
  exact ⟨h.1, h.2.1, h1, h2⟩
def Bl.tq (b : Bl) (f : Fl) (D : Nat) : Option (Int × Int) :=
  if allBr b f D then some (sumTo (fun i => (b.tor f i ((b.br f i D).getD 0) (D + 1)).1) b.nr, sumTo (fun i => (b.tor f i ((b.br f i D).getD 0) (D + 1)).2) b.nr) else none
def pitR (o : Option (Int × Int)) : IV := match o with
  | some t => .tup [.agg [.int .i64 t.1, .int .i64 t.2], .bool true]
  | none => .tup [.agg [.int .i64 0, .int .i64 0], .bool false]
theorem c_pitched (up : List Ces) (b : Bl) (f : Fl) (D : Nat) (hD : D < 12) (p : Int) (hb : b.err = 0) (hf : (f.at p).err = 0) :
    Cs gl n_rotor_pitched up [b.iv, f.iv, .int .i64 ((D + 1 : Nat) : Int), .int .i64 p] (pitR (b.tq (f.at p) D)) up := by
  refine mk h_rotor_pitched rfl rfl ?_
  obtain ⟨hnd, hn1, hn2, ok⟩ := Bl.good hb hf
  have hs := Int.pow_succ (2 : Int) D
  have he := fun up => c_each (gl := gl) up b (f.at p) D hD hb hf n_rotor_section_torque (fun i a => b.tor (f.at p) i a (D + 1)) fun up i a hi hbr => by
    have := br_rng (ok i hi) hbr
    exact c_torque up b (f.at p) i (ok i hi) hnd a (D + 1) (by omega) (by omega) (by omega)
  unfold Bl.tq
  conv => whnf
  by_cases hall : allBr b (f.at p) D
  · rw [eachR, if_pos hall] at he
    refine .mk _ _ _ _ _ (leL_refl _) (he _) rfl ?_
    conv => whnf
    refine .mk _ _ _ _ _ (leL_refl _) (c_sum _ _ hn2 _ _ (fun i hi => by obtain ⟨a, ha⟩ := Option.isSome_iff_exists.1 (hall i hi); rw [ha]; exact tor_bound (ok i hi) hD ha)) rfl ?_
    conv => whnf
    refine ⟨?_, rfl⟩
    rw [if_pos hall]; rfl
  · rw [eachR, if_neg hall] at he
    refine .mk _ _ _ _ _ (leL_refl _) (he _) rfl ?_
    conv => whnf
    refine .mk _ _ _ _ _ (leL_refl _) (c_sum0 _) rfl ?_
    conv => whnf
    refine ⟨?_, rfl⟩
    rw [if_neg hall]; rfl
def bestTo (g : Int → Option (Int × Int)) (x : Int) : Nat → Int × (Int × Int) × Bool
  | 0 => (0, (0, 0), false)
  | k + 1 => match g (x + k) with
    | some t => bif !(bestTo g x k).2.2 || decide (t.1 > (bestTo g x k).2.1.1) then (x + k, t, true) else bestTo g x k
    | none => bestTo g x k
def bestErr (b : Bl) (f : Fl) (d x y : Int) : Int := orE (allErr b f d) (pitchErr x y)
def bestOf (b : Bl) (f : Fl) (d x y : Int) : Int × (Int × Int) × Bool := bestTo (fun p => b.tq (f.at p) (d - 1).toNat) x (y + 1 - x).toNat
def bestR (b : Bl) (f : Fl) (d x y : Int) : IV :=
  bif bestErr b f d x y != 0 then .tup [.int .i64 0, .agg [.int .i64 0, .int .i64 0], .int .i64 (bestErr b f d x y)] else
    .tup [.int .i64 (bestOf b f d x y).1, .agg [.int .i64 (bestOf b f d x y).2.1.1, .int .i64 (bestOf b f d x y).2.1.2], .int .i64 (bif !(bestOf b f d x y).2.2 then 7 else 0)]
theorem c_Best (up : List Ces) (b : Bl) (f : Fl) (d x y : Int) : Cs gl n_rotor_Best up [b.iv, f.iv, .int .i64 d, .int .i64 x, .int .i64 y] (bestR b f d x y) up := by
  refine mk h_rotor_Best rfl rfl ?_
  unfold bestR
  conv => whnf
  refine .mk _ _ _ _ _ (leL_refl _) (c_checkAll _ b f _) rfl ?_
  conv => whnf
  refine .mk _ _ _ _ _ (leL_refl _) (c_checkPitches _ _ _) rfl ?_
  conv => whnf
  refine .mk _ _ _ _ _ (leL_refl _) (c_f2 _ _ _ _ rfl rfl) rfl ?_
  conv => whnf
  split
  · rename_i h
    have h : (bestErr b f d x y != 0) = true := h
    conv => whnf
    refine ⟨?_, rfl⟩
    rw [h]; rfl
  · rename_i h
    have h : (bestErr b f d x y != 0) = false := h
    rw [h, cond_false]
    have h0 : bestErr b f d x y = 0 := by simpa using h
    unfold bestErr at h0
    rw [orE_zero] at h0
    obtain ⟨g1, g2, n, rfl, g3⟩ := allErr_ok h0.1
    obtain ⟨p1, p2, p3⟩ := pitchErr_ok h0.2
    clear h h0
    obtain ⟨N, hN⟩ : ∃ N : Nat, y + 1 - x = N := ⟨(y + 1 - x).toNat, by omega⟩
    have eB : bestOf b f ((n + 1 : Nat) : Int) x y = bestTo (fun p => b.tq (f.at p) n) x N := by
      unfold bestOf
      rw [hN, show (((n + 1 : Nat) : Int) - 1).toNat = n by omega]; rfl
    rw [eB]
    obtain ⟨g, hg⟩ : ∃ g : Int → Option (Int × Int), g = fun p => b.tq (f.at p) n := ⟨_, rfl⟩
    rw [← hg]
    have hpit : ∀ up p, -64 ≤ p → p ≤ 64 → Cs gl n_rotor_pitched up [b.iv, f.iv, .int .i64 ((n + 1 : Nat) : Int), .int .i64 p] (pitR (g p)) up := fun up p q1 q2 => by
      rw [hg]; exact c_pitched up b f n g3 p g1 (Fl.at_err g2 q1 q2)
    clear hg eB
    conv => whnf
    refine .mk (α := {k : Nat // k ≤ N}) (fun k => ⟨[(17, .int .i64 (x + k.1)), (16, .bool (bestTo g x k.1).2.2), (14, .int .i64 (bestTo g x k.1).1), (4, .int .i64 y), (2, .int .i64 ((n + 1 : Nat) : Int)), (5, .ptr 0 5 0), (6, .ptr 0 6 0), (11, .ptr 0 11 0), (15, .ptr 0 15 0)],
      [(15, [.int .i64 (bestTo g x k.1).2.1.1, .int .i64 (bestTo g x k.1).2.1.2]), (11, [.int .i64 0, .int .i64 0]), (6, [.int .i64 f.w, .int .i64 f.s, .int .i64 f.p]),
       (5, [.lst none 1 b.nl fun i => [.int .i64 (b.lf i)], .lst none 1 b.nd fun i => [.int .i64 (b.df i)], .lst none 4 b.nr fun i => [.int .i64 (b.r1 i), .int .i64 (b.r2 i), .int .i64 (b.r3 i), .int .i64 (b.r4 i)]])], up⟩) (fun k => N - k.1) ⟨0, Nat.zero_le _⟩ ⟨?_, ?_, rfl, rfl⟩ ?_
    · exact ⟨leV_int (by show x = x + ((0 : Nat) : Int); omega), leV_refl _, leV_refl _, leV_refl _, leV_refl _, leV_refl _, leV_refl _, leV_refl _, leV_refl _, trivial⟩
    · exact ⟨leL_refl _, leL_refl _, leL_refl _, leL_refl _, trivial⟩
    rintro ⟨k, hk⟩
    have hw : w64 (x + k + 1) = x + ((k + 1 : Nat) : Int) := by rw [w64, wrap_in] <;> omega
    conv => whnf
    split
    · rename_i h
      have h : decide (x + k ≤ y) = true := h
      have hlt : k < N := by simp at h; omega
      have hp := fun up => hpit up (x + k) (by omega) (by omega)
      have hstep : bestTo g x (k + 1) = match g (x + k) with
        | some t => bif !(bestTo g x k).2.2 || decide (t.1 > (bestTo g x k).2.1.1) then (x + k, t, true) else bestTo g x k
        | none => bestTo g x k := rfl
      cases hgk : g (x + k) with
      | none =>
        rw [hgk] at hp hstep
        simp only at hstep
        conv => whnf
        refine .mk _ _ _ _ _ (leL_refl _) (hp _) rfl ?_
        conv => whnf
        refine ⟨⟨k + 1, hlt⟩, ⟨⟨leV_int hw, ?_, ?_, leV_refl _, leV_refl _, leV_refl _, leV_refl _, leV_refl _, leV_refl _, trivial⟩, ⟨?_, leL_refl _, leL_refl _, leL_refl _, trivial⟩, rfl, rfl⟩, (by show N - (k + 1) < N - k; omega)⟩
        · simp only [hstep]; exact leV_refl _
        · simp only [hstep]; exact leV_refl _
        · simp only [hstep]; exact leL_refl _
      | some t =>
        rw [hgk] at hp hstep
        simp only at hstep
        obtain ⟨B, hB⟩ : ∃ B, B = bestTo g x k := ⟨_, rfl⟩
        rw [← hB] at hstep ⊢
        obtain ⟨b1, ⟨b2, b3⟩, b4⟩ := B
        conv => whnf
        refine .mk _ _ _ _ _ (leL_refl _) (hp _) rfl ?_
        conv => whnf
        cases b4 with
        | false =>
          simp only [Bool.not_false, Bool.true_or, cond_true] at hstep
          conv => whnf
          refine .mk 3 (by kernel_rfl) ?_
          conv => whnf
          refine ⟨⟨k + 1, hlt⟩, ⟨⟨leV_int hw, ?_, ?_, leV_refl _, leV_refl _, leV_refl _, leV_refl _, leV_refl _, leV_refl _, trivial⟩, ⟨?_, leL_refl _, leL_refl _, leL_refl _, trivial⟩, rfl, rfl⟩, (by show N - (k + 1) < N - k; omega)⟩
          · simp only [hstep]; exact leV_refl _
          · simp only [hstep]; exact leV_refl _
          · simp only [hstep]; exact leL_refl _
        | true =>
          simp only [Bool.not_true, Bool.false_or] at hstep
          conv => whnf
          split
          · rename_i h
            have h : decide (t.1 > b2) = true := h
            rw [h, cond_true] at hstep
            conv => whnf
            refine .mk 3 (by kernel_rfl) ?_
            conv => whnf
            refine ⟨⟨k + 1, hlt⟩, ⟨⟨leV_int hw, ?_, ?_, leV_refl _, leV_refl _, leV_refl _, leV_refl _, leV_refl _, leV_refl _, trivial⟩, ⟨?_, leL_refl _, leL_refl _, leL_refl _, trivial⟩, rfl, rfl⟩, (by show N - (k + 1) < N - k; omega)⟩
            · simp only [hstep]; exact leV_refl _
            · simp only [hstep]; exact leV_refl _
            · simp only [hstep]; exact leL_refl _
          · rename_i h
            have h : decide (t.1 > b2) = false := h
            rw [h, cond_false] at hstep
            conv => whnf
            refine ⟨⟨k + 1, hlt⟩, ⟨⟨leV_int hw, ?_, ?_, leV_refl _, leV_refl _, leV_refl _, leV_refl _, leV_refl _, leV_refl _, trivial⟩, ⟨?_, leL_refl _, leL_refl _, leL_refl _, trivial⟩, rfl, rfl⟩, (by show N - (k + 1) < N - k; omega)⟩
            · simp only [hstep]; exact leV_refl _
            · simp only [hstep]; exact leV_refl _
            · simp only [hstep]; exact leL_refl _
    · rename_i h
      have h : decide (x + k ≤ y) = false := h
      have : k = N := by simp at h; omega
      subst this
      conv => whnf
      refine .mk 6 (by kernel_rfl) ?_
      conv => whnf
      first | refine CALLQ.mk _ _ _ (leL_refl _) (c_when _ _ _) rfl ?_ | refine CALL0.mk _ _ _ _ _ (leL_refl _) (c_when _ _ _) rfl ?_
      conv => whnf
      exact ⟨rfl, rfl⟩
def limTo (g : Int → Option (Int × Int)) (m : Int) : Nat → Int → Option Int
  | 0, _ => none
  | k + 1, p => match g p with
    | some t => bif decide (t.2 ≤ m) then some p else limTo g m k (p + 1)
    | none => limTo g m k (p + 1)
def limErr (b : Bl) (f : Fl) (d x y m : Int) : Int := orE (allErr b f d) (orE (pitchErr x y) (withinS m (-1152921504606846976) 1152921504606846976))
def limOf (b : Bl) (f : Fl) (d x y m : Int) : Option Int := limTo (fun p => b.tq (f.at p) (d - 1).toNat) m (y + 1 - x).toNat x
def limR (b : Bl) (f : Fl) (d x y m : Int) : IV :=
  bif limErr b f d x y m != 0 then .tup [.int .i64 0, .int .i64 (limErr b f d x y m)] else
    match limOf b f d x y m with
    | some p => .tup [.int .i64 p, .int .i64 0]
    | none => .tup [.int .i64 0, .int .i64 7]
theorem c_Limit (up : List Ces) (b : Bl) (f : Fl) (d x y m : Int) : Cs gl n_rotor_Limit up [b.iv, f.iv, .int .i64 d, .int .i64 x, .int .i64 y, .int .i64 m] (limR b f d x y m) up := by
  refine mk h_rotor_Limit rfl rfl ?_
  unfold limR
  conv => whnf
  refine .mk _ _ _ _ _ (leL_refl _) (c_checkAll _ b f _) rfl ?_
  conv => whnf
  refine .mk _ _ _ _ _ (leL_refl _) (c_checkPitches _ _ _) rfl ?_
  conv => whnf
  refine .mk _ _ _ _ _ (leL_refl _) (c_within _ _ _ _) rfl ?_
  conv => whnf
  refine .mk _ _ _ _ _ (leL_refl _) (c_f3 _ _ _ _ _ rfl rfl rfl) rfl ?_
  conv => whnf
  split
  · rename_i h
    have h : (limErr b f d x y m != 0) = true := h
    conv => whnf
    refine ⟨?_, rfl⟩
    rw [h]; rfl
  · rename_i h
    have h : (limErr b f d x y m != 0) = false := h
    rw [h, cond_false]
    have h0 : limErr b f d x y m = 0 := by simpa using h
    unfold limErr at h0
    simp only [orE_zero, withinS_zero] at h0
    obtain ⟨g1, g2, n, rfl, g3⟩ := allErr_ok h0.1
    obtain ⟨p1, p2, p3⟩ := pitchErr_ok h0.2.1
    clear h h0
    obtain ⟨N, hN⟩ : ∃ N : Nat, y + 1 - x = N := ⟨(y + 1 - x).toNat, by omega⟩
    have eB : limOf b f ((n + 1 : Nat) : Int) x y m = limTo (fun p => b.tq (f.at p) n) m N x := by
      unfold limOf
      rw [hN, show (((n + 1 : Nat) : Int) - 1).toNat = n by omega]; rfl
    rw [eB]
    obtain ⟨g, hg⟩ : ∃ g : Int → Option (Int × Int), g = fun p => b.tq (f.at p) n := ⟨_, rfl⟩
    rw [← hg]
    have hpit : ∀ up p, -64 ≤ p → p ≤ 64 → Cs gl n_rotor_pitched up [b.iv, f.iv, .int .i64 ((n + 1 : Nat) : Int), .int .i64 p] (pitR (g p)) up := fun up p q1 q2 => by
      rw [hg]; exact c_pitched up b f n g3 p g1 (Fl.at_err g2 q1 q2)
    clear hg eB
    obtain ⟨R, hR⟩ : ∃ R, R = limTo g m N x := ⟨_, rfl⟩
    rw [← hR]
    have hw1 : w64 (y + 1) = y + 1 := by rw [w64, wrap_in] <;> omega
    conv => whnf
    refine .mk (α := {k : Nat // k ≤ N ∧ R = limTo g m (N - k) (x + k)}) (fun k => ⟨[(16, .int .i64 (x + k.1)), (15, .int .i64 (y + 1)), (5, .int .i64 m), (4, .int .i64 y), (2, .int .i64 ((n + 1 : Nat) : Int)), (6, .ptr 0 6 0), (7, .ptr 0 7 0)],
      [(7, [.int .i64 f.w, .int .i64 f.s, .int .i64 f.p]),
       (6, [.lst none 1 b.nl fun i => [.int .i64 (b.lf i)], .lst none 1 b.nd fun i => [.int .i64 (b.df i)], .lst none 4 b.nr fun i => [.int .i64 (b.r1 i), .int .i64 (b.r2 i), .int .i64 (b.r3 i), .int .i64 (b.r4 i)]])], up⟩) (fun k => N - k.1) ⟨0, Nat.zero_le _, by rw [hR]; simp⟩ ⟨?_, ?_, rfl, rfl⟩ ?_
    · exact ⟨leV_int (by show x = x + ((0 : Nat) : Int); omega), leV_int hw1, leV_refl _, leV_refl _, leV_refl _, leV_refl _, leV_refl _, trivial⟩
    · exact ⟨leL_refl _, leL_refl _, trivial⟩
    rintro ⟨k, hk, hRk⟩
    have hw : w64 (x + k + 1) = x + ((k + 1 : Nat) : Int) := by rw [w64, wrap_in] <;> omega
    conv => whnf
    split
    · rename_i h
      have h : decide (x + k ≤ y) = true := h
      have hlt : k < N := by simp at h; omega
      have hp := fun up => hpit up (x + k) (by omega) (by omega)
      have hstep : limTo g m (N - k) (x + k) = match g (x + k) with
          | some t => bif decide (t.2 ≤ m) then some (x + k) else limTo g m (N - (k + 1)) (x + ((k + 1 : Nat) : Int))
          | none => limTo g m (N - (k + 1)) (x + ((k + 1 : Nat) : Int)) := by
        rw [show N - k = (N - (k + 1)) + 1 by omega, show x + ((k + 1 : Nat) : Int) = x + k + 1 by omega]; rfl
      cases hgk : g (x + k) with
      | none =>
        rw [hgk] at hp hstep
        conv => whnf
        refine .mk _ _ _ _ _ (leL_refl _) (hp _) rfl ?_
        conv => whnf
        exact ⟨⟨k + 1, hlt, by rw [hRk, hstep]⟩, ⟨⟨leV_int hw, leV_refl _, leV_refl _, leV_refl _, leV_refl _, leV_refl _, leV_refl _, trivial⟩, ⟨leL_refl _, leL_refl _, trivial⟩, rfl, rfl⟩, (by show N - (k + 1) < N - k; omega)⟩
      | some t =>
        rw [hgk] at hp hstep
        simp only at hstep
        conv => whnf
        refine .mk _ _ _ _ _ (leL_refl _) (hp _) rfl ?_
        conv => whnf
        split
        · rename_i h
          have h : decide (t.2 ≤ m) = true := h
          rw [h, cond_true] at hstep
          conv => whnf
          split
          · rename_i h
            have h : decide (x + k > y) = true := h
            simp at h; omega
          · conv => whnf
            refine ⟨?_, rfl⟩
            show IV.tup [.int .i64 (x + k), .int .i64 0] = _
            have hRR : R = some (x + k) := hRk.trans hstep
            rw [hRR]
        · rename_i h
          have h : decide (t.2 ≤ m) = false := h
          rw [h, cond_false] at hstep
          conv => whnf
          exact ⟨⟨k + 1, hlt, by rw [hRk, hstep]⟩, ⟨⟨leV_int hw, leV_refl _, leV_refl _, leV_refl _, leV_refl _, leV_refl _, leV_refl _, trivial⟩, ⟨leL_refl _, leL_refl _, trivial⟩, rfl, rfl⟩, (by show N - (k + 1) < N - k; omega)⟩
    · rename_i h
      have h : decide (x + k ≤ y) = false := h
      have : k = N := by simp at h; omega
      subst this
      rw [Nat.sub_self] at hRk
      conv => whnf
      split
      · conv => whnf
        refine ⟨?_, rfl⟩
        rw [hRk]; rfl
      · rename_i h
        have h : decide (y + 1 > y) = false := h
        simp at h; omega
end Go.Proofs.YtfoenhiohhmnlaaGreatDoor.Ix

namespace Go.Proofs.YtfoenhiohhmnlaaGreatDoor.Ix
open Go.Proofs
set_option maxRecDepth 100000
set_option linter.unusedVariables false
set_option linter.unusedSimpArgs false
variable {gl : Nat → IV}
theorem Comp.res {P : Program} {gl : Nat → IV} {g : Nat} {up up' : List Ces} {args : List IV} {r r' : IV} (h : Comp P gl g up args r up') (hle : leV r r') : Comp P gl g up args r' up' :=
  ⟨h.1, fun vals w I X β σ hm hl ha => (h.2 vals w I X β σ hm hl ha).mono fun e w' ⟨v, I', s, e1, e2, e3⟩ => ⟨v, I', s, e1, leV_sound _ _ _ hle e2, e3⟩⟩
def exB : Bl := ⟨3, 3, 1, fun i => [0, 1, 2].getD i 0, fun i => [0, 0, 1].getD i 0, fun _ => 2, fun _ => 1, fun _ => 0, fun _ => 256⟩
def exF (p : Int) : Fl := ⟨1, 256, p⟩
theorem c_sample (up : List Ces) : Cs gl n_nacellelaw03_sample up [] exB.iv up := by
  have h : Cs gl n_nacellelaw03_sample up [] (.agg [.lst (some 1) 1 3 (litF 1 [.int .i64 0, .int .i64 1, .int .i64 2]), .lst (some 2) 1 3 (litF 1 [.int .i64 0, .int .i64 0, .int .i64 1]), .lst (some 5) 4 1 (litF 4 [.int .i64 2, .int .i64 1, .int .i64 0, .int .i64 256])]) up := by
    refine mk h_nacellelaw03_sample rfl rfl ?_
    conv => whnf
    exact ⟨rfl, rfl⟩
  refine h.res ⟨⟨.inl rfl, rfl, rfl, fun i hi => ?_⟩, ⟨.inl rfl, rfl, rfl, fun i hi => ?_⟩, ⟨.inl rfl, rfl, rfl, fun i hi => ?_⟩, trivial⟩
  · match i, hi with
    | 0, _ => rfl
    | 1, _ => rfl
    | 2, _ => rfl
  · match i, hi with
    | 0, _ => rfl
    | 1, _ => rfl
    | 2, _ => rfl
  · match i, hi with
    | 0, _ => rfl
theorem c_breeze (up : List Ces) (p : Int) : Cs gl n_nacellelaw03_breeze up [.int .i64 p] (flowI 1 256 p) up := by
  refine mk h_nacellelaw03_breeze rfl rfl ?_
  conv => whnf
  exact ⟨rfl, rfl⟩
theorem a_Inflow (up : List Ces) : Cs gl n_rotor_Inflow up [exB.iv, flowI 1 256 0, .int .i64 0, .agg [.int .i64 1, .int .i64 3]] (.tup [.int .i64 1, .int .i64 0]) up := by
  rw [← show inflR exB (exF 0) 0 1 3 = .tup [.int .i64 1, .int .i64 0] by kernel_rfl]
  exact c_Inflow up exB (exF 0) 0 1 3
theorem a_Balance (up : List Ces) (a z : Int) (h : balR exB (exF 0) 0 a 3 = .tup [.int .i64 z, .int .i64 0]) : Cs gl n_rotor_Balance up [exB.iv, flowI 1 256 0, .int .i64 0, .agg [.int .i64 a, .int .i64 3]] (.tup [.int .i64 z, .int .i64 0]) up := by
  rw [← h]
  exact c_Balance up exB (exF 0) 0 a 3
theorem a_Find (up : List Ces) (p d a e z : Int) (h : findR exB (exF p) 0 d = .tup [.agg [.int .i64 a, .int .i64 e], .int .i64 z]) : Cs gl n_rotor_Find up [exB.iv, flowI 1 256 p, .int .i64 0, .int .i64 d] (.tup [.agg [.int .i64 a, .int .i64 e], .int .i64 z]) up := by
  rw [← h]
  exact c_Find up exB (exF p) 0 d
theorem a_Thrust (up : List Ces) : Cs gl n_rotor_Thrust up [exB.iv, flowI 1 256 0, .int .i64 3] (.tup [.agg [.int .i64 14336, .int .i64 24576], .int .i64 0]) up := by
  rw [← show sumR exB (exF 0) 3 (fun i a d => exB.thr i a d) = .tup [.agg [.int .i64 14336, .int .i64 24576], .int .i64 0] by kernel_rfl]
  exact c_Thrust up exB (exF 0) 3
theorem a_Torque (up : List Ces) (p d x y : Int) (h : sumR exB (exF p) d (fun i a d => exB.tor (exF p) i a d) = .tup [.agg [.int .i64 x, .int .i64 y], .int .i64 0]) : Cs gl n_rotor_Torque up [exB.iv, flowI 1 256 p, .int .i64 d] (.tup [.agg [.int .i64 x, .int .i64 y], .int .i64 0]) up := by
  rw [← h]
  exact c_Torque up exB (exF p) d
theorem a_Best (up : List Ces) : Cs gl n_rotor_Best up [exB.iv, flowI 1 256 0, .int .i64 3, .int .i64 (-1), .int .i64 1] (.tup [.int .i64 0, .agg [.int .i64 512, .int .i64 512], .int .i64 0]) up := by
  rw [← show bestR exB (exF 0) 3 (-1) 1 = .tup [.int .i64 0, .agg [.int .i64 512, .int .i64 512], .int .i64 0] by kernel_rfl]
  exact c_Best up exB (exF 0) 3 (-1) 1
theorem a_Limit (up : List Ces) (m e : Int) (h : limR exB (exF 0) 3 (-1) 1 m = .tup [.int .i64 0, .int .i64 e]) : Cs gl n_rotor_Limit up [exB.iv, flowI 1 256 0, .int .i64 3, .int .i64 (-1), .int .i64 1, .int .i64 m] (.tup [.int .i64 0, .int .i64 e]) up := by
  rw [← h]
  exact c_Limit up exB (exF 0) 3 (-1) 1 m
theorem a_Split (up : List Ces) : Cs gl n_rotor_Split up [.agg [.int .i64 4, .int .i64 1, .int .i64 1]] (.tup [.int .i64 6, .agg [.int .i64 3, .int .i64 0], .int .i64 0]) up := by
  rw [← show splitR 4 1 1 = .tup [.int .i64 6, .agg [.int .i64 3, .int .i64 0], .int .i64 0] by kernel_rfl]
  exact c_Split up 4 1 1
theorem a_Turn (up : List Ces) (hr : gl g_rotor_roots = rootsI) : Cs gl n_rotor_Turn up [.agg [.int .i64 3, .int .i64 0], .int .i64 1] (.tup [.agg [.int .i64 0, .int .i64 3], .int .i64 0]) up := by
  rw [← show turnR 3 0 1 = .tup [.agg [.int .i64 0, .int .i64 3], .int .i64 0] by kernel_rfl]
  exact c_Turn up hr 3 0 1
theorem a_Merge (up : List Ces) (a b x y z e : Int) (h : mergeR 6 a b = .tup [.agg [.int .i64 x, .int .i64 y, .int .i64 z], .int .i64 e]) : Cs gl n_rotor_Merge up [.int .i64 6, .agg [.int .i64 a, .int .i64 b]] (.tup [.agg [.int .i64 x, .int .i64 y, .int .i64 z], .int .i64 e]) up := by
  rw [← h]
  exact c_Merge up 6 a b
theorem a_Times (up : List Ces) : Cs gl n_rotor_Times up [.agg [.int .i64 1, .int .i64 2], .agg [.int .i64 1, .int .i64 2]] (.tup [.agg [.int .i64 (-3), .int .i64 0], .int .i64 0]) up := by
  rw [← show timesR 1 2 1 2 = .tup [.agg [.int .i64 (-3), .int .i64 0], .int .i64 0] by kernel_rfl]
  exact c_Times up 1 2 1 2
theorem a_Norm (up : List Ces) : Cs gl n_rotor_Norm up [.agg [.int .i64 1, .int .i64 2]] (.tup [.int .i64 3, .int .i64 0]) up := by
  rw [← show normR 1 2 = .tup [.int .i64 3, .int .i64 0] by kernel_rfl]
  exact c_Norm up 1 2
abbrev recF : Nat → List IV := litF 3 [.int .i64 4, .int .i64 1, .int .i64 1, .int .i64 1, .int .i64 4, .int .i64 1]
def recX (i : Nat) : Int := [4, 1].getD i 0
def recY (i : Nat) : Int := [1, 4].getD i 0
theorem rec_le : leL [.lst none 3 2 recF] [loadsI none 2 recX recY fun _ => 1] := ⟨⟨.inl rfl, rfl, rfl, fun i hi => by
  match i, hi with
  | 0, _ => rfl
  | 1, _ => rfl⟩, trivial⟩
theorem a_Rotating (up : List Ces) : Cs gl n_rotor_Rotating up [.lst none 3 2 recF] (.tup [.agg [.int .i64 3, .int .i64 3], .int .i64 0]) up := by
  rw [← show rotR 2 recX recY (fun _ => 1) = .tup [.agg [.int .i64 3, .int .i64 3], .int .i64 0] by kernel_rfl]
  exact Comp.le rec_le (c_Rotating up 2 recX recY fun _ => 1)
theorem a_Fixed (up : List Ces) (hr : gl g_rotor_roots = rootsI) : Cs gl n_rotor_Fixed up [.lst none 3 2 recF] (.tup [.agg [.int .i64 0, .int .i64 (-3)], .int .i64 0]) up := by
  rw [← show fixR 2 recX recY (fun _ => 1) = .tup [.agg [.int .i64 0, .int .i64 (-3)], .int .i64 0] by kernel_rfl]
  exact Comp.le rec_le (c_Fixed up hr 2 recX recY fun _ => 1)
theorem itoa_small {i : Nat} (h : i < 10) : Go.Lib.itoa (i : Int) = [UInt8.ofNat (48 + i)] := by rw [Go.Lib.itoa_nonneg, Go.Lib.decDigits_one h]
theorem itoa_256 : Go.Lib.itoa 256 = [50, 53, 54] := by
  rw [show (256 : Int) = ((256 : Nat) : Int) from rfl, Go.Lib.itoa_nonneg, Go.Lib.decDigits, dif_neg (by decide), Go.Lib.decDigits_two (by decide) (by decide)]
  rfl
abbrev exT : List UInt8 := [112, 111, 108, 97, 114, 32, 48, 32, 48, 32, 49, 32, 48, 32, 50, 32, 49, 10, 114, 105, 110, 103, 32, 50, 32, 49, 32, 48, 32, 50, 53, 54, 10]
theorem exB_text : exB.text = exT := by
  have i0 : Go.Lib.itoa 0 = [48] := itoa_small (i := 0) (by decide)
  have i1 : Go.Lib.itoa 1 = [49] := itoa_small (i := 1) (by decide)
  have i2 : Go.Lib.itoa 2 = [50] := itoa_small (i := 2) (by decide)
  have h1 : numsS exB.pol 6 = [32, 48, 32, 48, 32, 49, 32, 48, 32, 50, 32, 49] := by
    show ((((((([] : List UInt8) ++ 32 :: Go.Lib.itoa 0) ++ 32 :: Go.Lib.itoa 0) ++ 32 :: Go.Lib.itoa 1) ++ 32 :: Go.Lib.itoa 0) ++ 32 :: Go.Lib.itoa 2) ++ 32 :: Go.Lib.itoa 1) = _
    rw [i0, i1, i2]; rfl
  have h2 : numsS (exB.ring 0) 4 = [32, 50, 32, 49, 32, 48, 32, 50, 53, 54] := by
    show ((((([] : List UInt8) ++ 32 :: Go.Lib.itoa 2) ++ 32 :: Go.Lib.itoa 1) ++ 32 :: Go.Lib.itoa 0) ++ 32 :: Go.Lib.itoa 256) = _
    rw [i0, i1, i2, itoa_256]; rfl
  show (polarW ++ numsS exB.pol 6 ++ [10]) ++ ([] ++ (ringW ++ numsS (exB.ring 0) 4 ++ [10])) = _
  rw [h1, h2]; rfl
theorem a_Print (up : List Ces) (hp : gl g_internal_strconv_uint64pow10 = powI) : Cs gl n_rotor_Print up [exB.iv] (.tup [.str (bytesS exT), .int .i64 0]) up := by
  have h := c_Print up hp exB
  unfold printR at h
  rw [exB_text, show (exB.err != 0) = false by kernel_rfl] at h
  exact h
theorem c_awake (up : List Ces) (hr : gl g_rotor_roots = rootsI) (hp : gl g_internal_strconv_uint64pow10 = powI) : Cs gl n_nacellelaw03_awake up [] (.bool true) up := by
  refine mk h_nacellelaw03_awake rfl rfl ?_
  conv => whnf
  refine .mk _ _ _ _ _ (leL_refl _) (c_sample _) rfl ?_
  conv => whnf
  refine .mk _ _ _ _ _ (leL_refl _) (c_breeze _ _) rfl ?_
  conv => whnf
  refine .mk _ _ _ _ _ (leL_refl _) (a_Inflow _) rfl ?_
  conv => whnf
  refine .mk _ _ _ _ _ (leL_refl _) (c_sample _) rfl ?_
  conv => whnf
  refine .mk _ _ _ _ _ (leL_refl _) (c_breeze _ _) rfl ?_
  conv => whnf
  refine .mk _ _ _ _ _ (leL_refl _) (a_Balance _ 0 (-32768) (by kernel_rfl)) rfl ?_
  conv => whnf
  refine .mk _ _ _ _ _ (leL_refl _) (c_sample _) rfl ?_
  conv => whnf
  refine .mk _ _ _ _ _ (leL_refl _) (c_breeze _ _) rfl ?_
  conv => whnf
  refine .mk _ _ _ _ _ (leL_refl _) (a_Balance _ 1 (-2048) (by kernel_rfl)) rfl ?_
  conv => whnf
  refine .mk _ _ _ _ _ (leL_refl _) (c_sample _) rfl ?_
  conv => whnf
  refine .mk _ _ _ _ _ (leL_refl _) (c_breeze _ _) rfl ?_
  conv => whnf
  refine .mk _ _ _ _ _ (leL_refl _) (a_Balance _ 2 8192 (by kernel_rfl)) rfl ?_
  conv => whnf
  refine .mk _ _ _ _ _ (leL_refl _) (c_sample _) rfl ?_
  conv => whnf
  refine .mk _ _ _ _ _ (leL_refl _) (c_breeze _ _) rfl ?_
  conv => whnf
  refine .mk _ _ _ _ _ (leL_refl _) (a_Find _ 0 3 1 3 0 (by kernel_rfl)) rfl ?_
  conv => whnf
  refine .mk _ _ _ _ _ (leL_refl _) (c_sample _) rfl ?_
  conv => whnf
  refine .mk _ _ _ _ _ (leL_refl _) (c_breeze _ _) rfl ?_
  conv => whnf
  refine .mk _ _ _ _ _ (leL_refl _) (a_Find _ 0 2 0 2 0 (by kernel_rfl)) rfl ?_
  conv => whnf
  refine .mk _ _ _ _ _ (leL_refl _) (c_sample _) rfl ?_
  conv => whnf
  refine .mk _ _ _ _ _ (leL_refl _) (c_breeze _ _) rfl ?_
  conv => whnf
  refine .mk _ _ _ _ _ (leL_refl _) (a_Find _ 1 3 0 3 0 (by kernel_rfl)) rfl ?_
  conv => whnf
  refine .mk _ _ _ _ _ (leL_refl _) (c_sample _) rfl ?_
  conv => whnf
  refine .mk _ _ _ _ _ (leL_refl _) (c_breeze _ _) rfl ?_
  conv => whnf
  refine .mk _ _ _ _ _ (leL_refl _) (a_Find _ (-1) 3 0 0 7 (by kernel_rfl)) rfl ?_
  conv => whnf
  refine .mk _ _ _ _ _ (leL_refl _) (c_sample _) rfl ?_
  conv => whnf
  refine .mk _ _ _ _ _ (leL_refl _) (c_breeze _ _) rfl ?_
  conv => whnf
  refine .mk _ _ _ _ _ (leL_refl _) (a_Thrust _) rfl ?_
  conv => whnf
  refine .mk _ _ _ _ _ (leL_refl _) (c_sample _) rfl ?_
  conv => whnf
  refine .mk _ _ _ _ _ (leL_refl _) (c_breeze _ _) rfl ?_
  conv => whnf
  refine .mk _ _ _ _ _ (leL_refl _) (a_Torque _ 0 3 512 512 (by kernel_rfl)) rfl ?_
  conv => whnf
  refine .mk _ _ _ _ _ (leL_refl _) (c_sample _) rfl ?_
  conv => whnf
  refine .mk _ _ _ _ _ (leL_refl _) (c_breeze _ _) rfl ?_
  conv => whnf
  refine .mk _ _ _ _ _ (leL_refl _) (a_Torque _ 0 2 (-522240) 512 (by kernel_rfl)) rfl ?_
  conv => whnf
  refine .mk _ _ _ _ _ (leL_refl _) (c_sample _) rfl ?_
  conv => whnf
  refine .mk _ _ _ _ _ (leL_refl _) (c_breeze _ _) rfl ?_
  conv => whnf
  refine .mk _ _ _ _ _ (leL_refl _) (a_Torque _ 1 3 0 1024 (by kernel_rfl)) rfl ?_
  conv => whnf
  refine .mk _ _ _ _ _ (leL_refl _) (c_sample _) rfl ?_
  conv => whnf
  refine .mk _ _ _ _ _ (leL_refl _) (c_breeze _ _) rfl ?_
  conv => whnf
  refine .mk _ _ _ _ _ (leL_refl _) (a_Best _) rfl ?_
  conv => whnf
  refine .mk _ _ _ _ _ (leL_refl _) (c_sample _) rfl ?_
  conv => whnf
  refine .mk _ _ _ _ _ (leL_refl _) (c_breeze _ _) rfl ?_
  conv => whnf
  refine .mk _ _ _ _ _ (leL_refl _) (a_Limit _ 512 0 (by kernel_rfl)) rfl ?_
  conv => whnf
  refine .mk _ _ _ _ _ (leL_refl _) (c_sample _) rfl ?_
  conv => whnf
  refine .mk _ _ _ _ _ (leL_refl _) (c_breeze _ _) rfl ?_
  conv => whnf
  refine .mk _ _ _ _ _ (leL_refl _) (a_Limit _ 511 7 (by kernel_rfl)) rfl ?_
  conv => whnf
  refine .mk _ _ _ _ _ (leL_refl _) (a_Split _) rfl ?_
  conv => whnf
  refine .mk _ _ _ _ _ (leL_refl _) (a_Turn _ hr) rfl ?_
  conv => whnf
  refine .mk _ _ _ _ _ (leL_refl _) (a_Merge _ 0 3 1 4 1 0 (by kernel_rfl)) rfl ?_
  conv => whnf
  refine .mk _ _ _ _ _ (leL_refl _) (a_Merge _ 1 0 0 0 0 30 (by kernel_rfl)) rfl ?_
  conv => whnf
  refine .mk _ _ _ _ _ (leL_refl _) (a_Times _) rfl ?_
  conv => whnf
  refine .mk _ _ _ _ _ (leL_refl _) (a_Norm _) rfl ?_
  conv => whnf
  refine .mk _ _ _ _ _ (leL_refl _) (a_Rotating _) rfl ?_
  conv => whnf
  refine .mk _ _ _ _ _ (leL_refl _) (a_Fixed _ hr) rfl ?_
  conv => whnf
  refine .mk _ _ _ _ _ (leL_refl _) (c_sample _) rfl ?_
  conv => whnf
  refine .mk _ _ _ _ _ (leL_refl _) (a_Print _ hp) rfl ?_
  conv => whnf
  refine ⟨?_, rfl⟩
  show IV.bool ((bytesS exT).toList == (bytesS exT).toList) = _
  rw [beq_self_eq_true]
end Go.Proofs.YtfoenhiohhmnlaaGreatDoor.Ix

namespace Go.Proofs.YtfoenhiohhmnlaaGreatDoor.Ix
open Go.Proofs
set_option maxRecDepth 100000
set_option linter.unusedVariables false
set_option linter.unusedSimpArgs false
variable {gl : Nat → IV}
theorem back_no (up : List Ces) (hr : gl g_rotor_roots = rootsI) (hp : gl g_internal_strconv_uint64pow10 = powI) (b : Bl) (s : ByteArray) (h : b.short = false ∨ (b.short = true ∧ b.err ≠ 0) ∨ (b.short = true ∧ b.err = 0 ∧ decide ((s.size : Int) > 300) = true)) :
    Cs gl n_nacellelaw03_RotorBack up [b.iv, .str s] (.bool true) up := by
  have hS := fun up => c_Short (gl := gl) up b
  have hE := fun up => c_rCheckBlade (gl := gl) up b
  have hA := fun up => c_awake (gl := gl) up hr hp
  obtain ⟨E, hEE⟩ : ∃ E, E = b.err := ⟨_, rfl⟩
  rw [← hEE] at hE h
  rcases h with h | ⟨h, h2⟩ | ⟨h, h2, h3⟩
  · rw [h] at hS
    refine mk h_nacellelaw03_RotorBack rfl rfl ?_
    conv => whnf
    repeat first
      | (refine DRAW.seek ?_; repeat (first | refine TRYD.take ?_ | refine TRYD.next ?_); conv => whnf)
      | (refine HOLD.mk (by first | exact trivial | exact ⟨⟨rfl, rfl⟩, trivial⟩ | exact ⟨⟨rfl, rfl⟩, ⟨rfl, rfl⟩, trivial⟩) ?_; (conv => whnf))
      | (refine CALL0.by (hA ..) rfl ?_; conv => whnf)
      | (refine CALLQ.mk _ _ _ (leL_refl _) (hA ..) rfl ?_; conv => whnf)
      | (refine CALL0.by (hS ..) rfl ?_; conv => whnf)
      | (refine CALLQ.mk _ _ _ (leL_refl _) (hS ..) rfl ?_; conv => whnf)
    exact ⟨rfl, rfl⟩
  · rw [h] at hS
    have q : (E != 0) = true := by simpa using h2
    refine mk h_nacellelaw03_RotorBack rfl rfl ?_
    conv => whnf
    repeat first
      | (refine DRAW.seek ?_; repeat (first | refine TRYD.take ?_ | refine TRYD.next ?_); conv => whnf)
      | (refine HOLD.mk (by first | exact trivial | exact ⟨⟨rfl, rfl⟩, trivial⟩ | exact ⟨⟨rfl, rfl⟩, ⟨rfl, rfl⟩, trivial⟩) ?_; (conv => whnf))
      | (refine CALL0.by (hA ..) rfl ?_; conv => whnf)
      | (refine CALLQ.mk _ _ _ (leL_refl _) (hA ..) rfl ?_; conv => whnf)
      | (refine CALL0.by (hS ..) rfl ?_; conv => whnf)
      | (refine CALLQ.mk _ _ _ (leL_refl _) (hS ..) rfl ?_; conv => whnf)
      | (refine CALL0.by (hE ..) rfl ?_; conv => whnf)
      | (refine CALLQ.mk _ _ _ (leL_refl _) (hE ..) rfl ?_; conv => whnf)
    split
    rotate_left
    · rename_i h
      exact Bool.noConfusion ((q).symm.trans h)
    rename_i hN
    clear hN
    conv => whnf
    repeat first
      | (refine DRAW.seek ?_; repeat (first | refine TRYD.take ?_ | refine TRYD.next ?_); conv => whnf)
      | (refine HOLD.mk (by first | exact trivial | exact ⟨⟨rfl, rfl⟩, trivial⟩ | exact ⟨⟨rfl, rfl⟩, ⟨rfl, rfl⟩, trivial⟩) ?_; (conv => whnf))
      | (refine CALL0.by (hA ..) rfl ?_; conv => whnf)
      | (refine CALLQ.mk _ _ _ (leL_refl _) (hA ..) rfl ?_; conv => whnf)
    exact ⟨rfl, rfl⟩
  · rw [h] at hS
    rw [h2] at hE
    refine mk h_nacellelaw03_RotorBack rfl rfl ?_
    conv => whnf
    repeat first
      | (refine DRAW.seek ?_; repeat (first | refine TRYD.take ?_ | refine TRYD.next ?_); conv => whnf)
      | (refine HOLD.mk (by first | exact trivial | exact ⟨⟨rfl, rfl⟩, trivial⟩ | exact ⟨⟨rfl, rfl⟩, ⟨rfl, rfl⟩, trivial⟩) ?_; (conv => whnf))
      | (refine CALL0.by (hA ..) rfl ?_; conv => whnf)
      | (refine CALLQ.mk _ _ _ (leL_refl _) (hA ..) rfl ?_; conv => whnf)
      | (refine CALL0.by (hS ..) rfl ?_; conv => whnf)
      | (refine CALLQ.mk _ _ _ (leL_refl _) (hS ..) rfl ?_; conv => whnf)
      | (refine CALL0.by (hE ..) rfl ?_; conv => whnf)
      | (refine CALLQ.mk _ _ _ (leL_refl _) (hE ..) rfl ?_; conv => whnf)
    split
    rotate_left
    · rename_i h
      exact Bool.noConfusion ((h3).symm.trans h)
    rename_i hN
    clear hN
    conv => whnf
    repeat first
      | (refine DRAW.seek ?_; repeat (first | refine TRYD.take ?_ | refine TRYD.next ?_); conv => whnf)
      | (refine HOLD.mk (by first | exact trivial | exact ⟨⟨rfl, rfl⟩, trivial⟩ | exact ⟨⟨rfl, rfl⟩, ⟨rfl, rfl⟩, trivial⟩) ?_; (conv => whnf))
      | (refine CALL0.by (hA ..) rfl ?_; conv => whnf)
      | (refine CALLQ.mk _ _ _ (leL_refl _) (hA ..) rfl ?_; conv => whnf)
    exact ⟨rfl, rfl⟩
theorem parA_cases (o : Option Nat) (l : List UInt8) : (l ≠ [] ∧ ParOk (splitL 10 l) ∧ parA o l = .tup [bladeT o (parB (splitL 10 l)), .int .i64 0, .int .i64 0]) ∨ ∃ i e, e ≠ 0 ∧ parA o l = .tup [nilB0, .int .i64 i, .int .i64 e] := by
  unfold parA
  by_cases h : l = []
  · rw [if_pos h]; exact .inr ⟨0, 26, by decide, rfl⟩
  · rw [if_neg h]
    obtain ⟨P, hP⟩ : ∃ P, P = splitL 10 l := ⟨_, rfl⟩
    rw [← hP]
    by_cases hb : fb (lineOk P) (linesN P) 0 < linesN P
    · refine .inr ⟨(fb (lineOk P) (linesN P) 0 : Nat), 26, by decide, ?_⟩
      unfold parR
      simp only [decide_eq_true hb, cond_true]
    · by_cases he : (parB P).err = 0
      · have ok : ∀ k, k < linesN P → lineOk P k = true := by
          have key : ∀ n i, ¬ fb (lineOk P) n i < i + n → ∀ k, i ≤ k → k < i + n → lineOk P k = true := by
            intro n
            induction n with
            | zero => intro i _ k h1 h2; omega
            | succ n ih =>
              intro i hh k h1 h2
              unfold fb at hh
              cases q : lineOk P i with
              | false => rw [q, cond_false] at hh; omega
              | true =>
                rw [q, cond_true] at hh
                by_cases hk : k = i
                · rw [hk]; exact q
                · exact ih (i + 1) (by omega) k (by omega) (by omega)
          exact fun k hk => key (linesN P) 0 (by omega) k (Nat.zero_le _) (by omega)
        exact .inl ⟨h, ⟨ok, he⟩, parR_ok ok he⟩
      · refine .inr ⟨linesN P, (parB P).err, he, ?_⟩
        unfold parR
        have q : ((parB P).err != 0) = true := by simpa using he
        simp only [decide_eq_false hb, cond_false, q, cond_true]
def lvBack : List (Nat × List Nat) := [(18, [1, 2, 4, 5, 6, 7, 8, 9, 10, 18]), (22, [1, 2, 4, 5, 6, 7, 8, 9, 10, 20, 22]), (27, [1, 2, 4, 5, 6, 7, 8, 9, 10, 25, 27]), (35, [1, 2, 4, 5, 6, 7, 8, 9, 10, 35]), (38, [1, 2, 4, 5, 6, 7, 8, 9, 10, 38]), (39, [1, 2, 4, 5, 6, 7, 8, 9, 10, 39]), (44, [1, 2, 4, 5, 6, 7, 8, 9, 10, 44]), (60, [1, 2, 4, 5, 10, 58, 60]), (62, [1, 2, 4, 5, 10, 58, 62]), (67, [1, 2, 4, 5, 10, 65, 67]), (77, [1, 2, 4, 5, 10, 77]), (85, [1, 2, 4, 5, 85]), (101, [2, 4, 101])]
set_option maxHeartbeats 8000000 in
theorem back_go (up : List Ces) (hr : gl g_rotor_roots = rootsI) (hp : gl g_internal_strconv_uint64pow10 = powI) (h2 : gl g_strconv_ErrSyntax = errI) (h3 : gl g_strconv_ErrRange = errI) (b : Bl) (s : ByteArray)
    (hs : b.short = true) (he : b.err = 0) (q6 : decide ((s.size : Int) > 300) = false) :
    Cs gl n_nacellelaw03_RotorBack up [b.iv, .str s] (.bool true) up := by
  have hS := fun up => c_Short (gl := gl) up b
  rw [hs] at hS
  have hE := fun up => c_rCheckBlade (gl := gl) up b
  rw [he] at hE
  have hA := fun up => c_awake (gl := gl) up hr hp
  have hn := numB he
  have hnd := hn.nd
  have hl2 := hn.l2
  have hn2 := hn.n2
  have hb := fun up => c_blade (gl := gl) up b (by omega) (by omega) (by omega)
  have hP := fun up => c_Print (gl := gl) up hp b
  unfold printR at hP
  rw [he] at hP
  simp only [bne_self_eq_false, cond_false] at hP
  have hTl : b.text.length ≤ 4096 := by
    obtain ⟨_, _, _, ok⟩ := Bl.good (b := b) (f := ⟨1, 1, 0⟩) he (by decide)
    have hrl := ringsS_len (b := b) b.nr fun i hi j => ring_i64 (ok i (by omega)) j
    have hpl := numsS_len (f := b.pol) (2 * b.nl) (fun i hi => by have := hn.pol i hi; unfold i64; omega)
    unfold Bl.text lineS
    simp only [List.length_append, List.length_cons, List.length_nil]
    omega
  have hT0 : b.text ≠ [] := text_ne b
  obtain ⟨hPP, hSa⟩ := parse_print he (some 24)
  have hPt := fun up => c_pParse (gl := gl) up hp h2 h3 b.text hTl hT0
  rw [hPP] at hPt
  have hPc := fun up => c_pParse (gl := gl) up hp h2 h3 (bodyT b b.nr) (by have := congrArg List.length (text_body b); simp at this; omega) (bodyT_ne b b.nr)
  rw [parse_cut he] at hPc
  have hSp := fun up => c_rSplit (gl := gl) up b.text 10 (by omega)
  rw [(text_lines hn).2.1] at hSp
  have hTo := fun up => c_toldB (gl := gl) up (parB (splitL 10 b.text)) (by rw [hSa.nr]; omega)
  have hSB : ∀ up, Cs gl n_nacelleref03_SameBlade up [(parB (splitL 10 b.text)).iv, b.iv] (.bool true) up := fun up => by
    refine Comp.le ?_ (c_rSameBladeR up b (by omega) (by omega) (by omega))
    refine ⟨⟨⟨.inl rfl, rfl, hSa.nl, fun i hi => ?_⟩, ⟨.inl rfl, rfl, hSa.nd, fun i hi => ?_⟩, ⟨.inl rfl, rfl, hSa.nr, fun i hi => ?_⟩, trivial⟩, leV_refl _, trivial⟩
    · show [IV.int .i64 _] = [IV.int .i64 _]
      rw [hSa.lf i (by have := hSa.nl; have : i < _ := hi; omega)]
    · show [IV.int .i64 _] = [IV.int .i64 _]
      rw [hSa.df i (by have := hSa.nd; have : i < _ := hi; omega)]
    · show [IV.int .i64 _, IV.int .i64 _, IV.int .i64 _, IV.int .i64 _] = [IV.int .i64 _, IV.int .i64 _, IV.int .i64 _, IV.int .i64 _]
      have hi : i < b.nr := by have := hSa.nr; have : i < _ := hi; omega
      rw [hSa.r1 i hi, hSa.r2 i hi, hSa.r3 i hi, hSa.r4 i hi]
  have hcut : bytesS (bodyT b b.nr) = (bytesS b.text).extract 0 (b.text.length - 1) := by
    rw [extract_mid, text_body]
    simp
  rw [hcut] at hPc
  have hsz := bytesS_size b.text
  have hT1 : 1 ≤ b.text.length := List.length_pos_iff.2 hT0
  obtain ⟨B, hB⟩ : ∃ B, B = parB (splitL 10 b.text) := ⟨_, rfl⟩
  rw [← hB] at hPt hTo hSB hSa
  obtain ⟨F, hF⟩ : ∃ F : Nat → List IV, F = fun i => [.str (bytesS ((splitL 10 b.text).getD i []))] := ⟨_, rfl⟩
  rw [← hF] at hSp
  obtain ⟨t, ht⟩ : ∃ t, t = bytesS b.text := ⟨_, rfl⟩
  obtain ⟨n, hn'⟩ : ∃ n, n = b.text.length := ⟨_, rfl⟩
  rw [← ht] at hP hPt hPc hSp hsz
  rw [← hn'] at hPc hsz hT1 hTl
  have q1 : (((b.nr + 2 : Nat) : Int) != w64 ((b.nr : Int) + 2)) = false := by
    rw [show w64 ((b.nr : Int) + 2) = ((b.nr + 2 : Nat) : Int) by rw [w64, wrap_in] <;> omega]
    simp
  have hw : w64 ((t.size : Int) - 1) = ((n - 1 : Nat) : Int) := by rw [w64, wrap_in] <;> omega
  have qs : (!(s.toList == s.toList)) = false := by simp
  have qa : decide (0 ≤ IntKind.i64.wrap ((t.size : Int) - 1)) = true := decide_eq_true (by have := hw; unfold w64 at this; omega)
  have qb : decide (IntKind.i64.wrap ((t.size : Int) - 1) ≤ (t.size : Int)) = true := decide_eq_true (by have := hw; unfold w64 at this; omega)
  have hx : t.extract 0 (n - 1) = t.extract 0 (IntKind.i64.wrap ((t.size : Int) - 1)).toNat := by have := hw; unfold w64 at this; rw [this, Int.toNat_natCast]
  rw [hx] at hPc
  have hsl : s.data.toList.length ≤ 4096 := by rw [← Go.Lib.size_eq]; have := of_decide_eq_false q6; omega
  have hPs := fun up => c_pParseA (gl := gl) up hp h2 h3 s.data.toList hsl
  rw [bytesS_mk] at hPs
  rcases parA_cases (some 24) s.data.toList with ⟨g0, gok, ge⟩ | ⟨i, e, he0, ge⟩
  · rw [ge] at hPs
    have hPy := fun up => c_Print (gl := gl) up hp (parB (splitL 10 s.data.toList))
    unfold printR at hPy
    rw [gok.err, text_parse g0 gok, bytesS_mk] at hPy
    simp only [bne_self_eq_false, cond_false] at hPy
    refine mk h_nacellelaw03_RotorBack rfl rfl ?_
    conv => whnf
    repeat first
      | (refine DRAW.seek ?_; repeat (first | refine TRYD.take ?_ | refine TRYD.next ?_); conv => whnf)
      | (refine HOLD.mk (by first | exact trivial | exact ⟨⟨rfl, rfl⟩, trivial⟩ | exact ⟨⟨rfl, rfl⟩, ⟨rfl, rfl⟩, trivial⟩) ?_; (conv => whnf))
      | (refine CALL0.cutBy lvBack _ _ _ _ _ (leL_refl _) (hA ..) rfl ?_; conv => whnf)
      | (refine CALL0.by (hA ..) rfl ?_; conv => whnf)
      | (refine CALLQ.mk _ _ _ (leL_refl _) (hA ..) rfl ?_; conv => whnf)
      | (refine CALL0.cutBy lvBack _ _ _ _ _ (leL_refl _) (hS ..) rfl ?_; conv => whnf)
      | (refine CALL0.by (hS ..) rfl ?_; conv => whnf)
      | (refine CALLQ.mk _ _ _ (leL_refl _) (hS ..) rfl ?_; conv => whnf)
      | (refine CALL0.cutBy lvBack _ _ _ _ _ (leL_refl _) (hE ..) rfl ?_; conv => whnf)
      | (refine CALL0.by (hE ..) rfl ?_; conv => whnf)
      | (refine CALLQ.mk _ _ _ (leL_refl _) (hE ..) rfl ?_; conv => whnf)
      | (refine CALL0.cutBy lvBack _ _ _ _ _ (leL_refl _) (hb ..) rfl ?_; conv => whnf)
      | (refine CALL0.by (hb ..) rfl ?_; conv => whnf)
      | (refine CALLQ.mk _ _ _ (leL_refl _) (hb ..) rfl ?_; conv => whnf)
      | (refine CALL0.cutBy lvBack _ _ _ _ _ (leL_refl _) (hP ..) rfl ?_; conv => whnf)
      | (refine CALL0.by (hP ..) rfl ?_; conv => whnf)
      | (refine CALLQ.mk _ _ _ (leL_refl _) (hP ..) rfl ?_; conv => whnf)
      | (refine CALL0.cutBy lvBack _ _ _ _ _ (leL_refl _) (hPt ..) rfl ?_; conv => whnf)
      | (refine CALL0.by (hPt ..) rfl ?_; conv => whnf)
      | (refine CALLQ.mk _ _ _ (leL_refl _) (hPt ..) rfl ?_; conv => whnf)
      | (refine CALL0.cutBy lvBack _ _ _ _ _ (leL_refl _) (hTo ..) rfl ?_; conv => whnf)
      | (refine CALL0.by (hTo ..) rfl ?_; conv => whnf)
      | (refine CALLQ.mk _ _ _ (leL_refl _) (hTo ..) rfl ?_; conv => whnf)
      | (refine CALL0.cutBy lvBack _ _ _ _ _ (leL_refl _) (hSB ..) rfl ?_; conv => whnf)
      | (refine CALL0.by (hSB ..) rfl ?_; conv => whnf)
      | (refine CALLQ.mk _ _ _ (leL_refl _) (hSB ..) rfl ?_; conv => whnf)
      | (refine CALL0.cutBy lvBack _ _ _ _ _ (leL_refl _) (hSp ..) rfl ?_; conv => whnf)
      | (refine CALL0.by (hSp ..) rfl ?_; conv => whnf)
      | (refine CALLQ.mk _ _ _ (leL_refl _) (hSp ..) rfl ?_; conv => whnf)
    split
    · rename_i h
      exact Bool.noConfusion ((q6).symm.trans h)
    rename_i hN
    clear hN
    conv => whnf
    repeat first
      | (refine DRAW.seek ?_; repeat (first | refine TRYD.take ?_ | refine TRYD.next ?_); conv => whnf)
      | (refine HOLD.mk (by first | exact trivial | exact ⟨⟨rfl, rfl⟩, trivial⟩ | exact ⟨⟨rfl, rfl⟩, ⟨rfl, rfl⟩, trivial⟩) ?_; (conv => whnf))
      | (refine CALL0.cutBy lvBack _ _ _ _ _ (leL_refl _) (hA ..) rfl ?_; conv => whnf)
      | (refine CALL0.by (hA ..) rfl ?_; conv => whnf)
      | (refine CALLQ.mk _ _ _ (leL_refl _) (hA ..) rfl ?_; conv => whnf)
      | (refine CALL0.cutBy lvBack _ _ _ _ _ (leL_refl _) (hS ..) rfl ?_; conv => whnf)
      | (refine CALL0.by (hS ..) rfl ?_; conv => whnf)
      | (refine CALLQ.mk _ _ _ (leL_refl _) (hS ..) rfl ?_; conv => whnf)
      | (refine CALL0.cutBy lvBack _ _ _ _ _ (leL_refl _) (hE ..) rfl ?_; conv => whnf)
      | (refine CALL0.by (hE ..) rfl ?_; conv => whnf)
      | (refine CALLQ.mk _ _ _ (leL_refl _) (hE ..) rfl ?_; conv => whnf)
      | (refine CALL0.cutBy lvBack _ _ _ _ _ (leL_refl _) (hb ..) rfl ?_; conv => whnf)
      | (refine CALL0.by (hb ..) rfl ?_; conv => whnf)
      | (refine CALLQ.mk _ _ _ (leL_refl _) (hb ..) rfl ?_; conv => whnf)
      | (refine CALL0.cutBy lvBack _ _ _ _ _ (leL_refl _) (hP ..) rfl ?_; conv => whnf)
      | (refine CALL0.by (hP ..) rfl ?_; conv => whnf)
      | (refine CALLQ.mk _ _ _ (leL_refl _) (hP ..) rfl ?_; conv => whnf)
      | (refine CALL0.cutBy lvBack _ _ _ _ _ (leL_refl _) (hPt ..) rfl ?_; conv => whnf)
      | (refine CALL0.by (hPt ..) rfl ?_; conv => whnf)
      | (refine CALLQ.mk _ _ _ (leL_refl _) (hPt ..) rfl ?_; conv => whnf)
      | (refine CALL0.cutBy lvBack _ _ _ _ _ (leL_refl _) (hTo ..) rfl ?_; conv => whnf)
      | (refine CALL0.by (hTo ..) rfl ?_; conv => whnf)
      | (refine CALLQ.mk _ _ _ (leL_refl _) (hTo ..) rfl ?_; conv => whnf)
      | (refine CALL0.cutBy lvBack _ _ _ _ _ (leL_refl _) (hSB ..) rfl ?_; conv => whnf)
      | (refine CALL0.by (hSB ..) rfl ?_; conv => whnf)
      | (refine CALLQ.mk _ _ _ (leL_refl _) (hSB ..) rfl ?_; conv => whnf)
      | (refine CALL0.cutBy lvBack _ _ _ _ _ (leL_refl _) (hSp ..) rfl ?_; conv => whnf)
      | (refine CALL0.by (hSp ..) rfl ?_; conv => whnf)
      | (refine CALLQ.mk _ _ _ (leL_refl _) (hSp ..) rfl ?_; conv => whnf)
    split
    · rename_i h
      exact Bool.noConfusion ((q1).symm.trans h)
    rename_i hN
    clear hN
    conv => whnf
    repeat first
      | (refine DRAW.seek ?_; repeat (first | refine TRYD.take ?_ | refine TRYD.next ?_); conv => whnf)
      | (refine HOLD.mk (by first | exact trivial | exact ⟨⟨rfl, rfl⟩, trivial⟩ | exact ⟨⟨rfl, rfl⟩, ⟨rfl, rfl⟩, trivial⟩) ?_; (conv => whnf))
      | (refine CALL0.cutBy lvBack _ _ _ _ _ (leL_refl _) (hPs ..) rfl ?_; conv => whnf)
      | (refine CALL0.by (hPs ..) rfl ?_; conv => whnf)
      | (refine CALLQ.mk _ _ _ (leL_refl _) (hPs ..) rfl ?_; conv => whnf)
      | (refine CALL0.cutBy lvBack _ _ _ _ _ (leL_refl _) (hPy ..) rfl ?_; conv => whnf)
      | (refine CALL0.by (hPy ..) rfl ?_; conv => whnf)
      | (refine CALLQ.mk _ _ _ (leL_refl _) (hPy ..) rfl ?_; conv => whnf)
    split
    · rename_i h
      exact Bool.noConfusion ((qs).symm.trans h)
    rename_i hN
    clear hN
    conv => whnf
    split
    rotate_left
    · rename_i h
      exact Bool.noConfusion ((qa).symm.trans h)
    rename_i hN
    clear hN
    conv => whnf
    split
    rotate_left
    · rename_i h
      exact Bool.noConfusion ((qb).symm.trans h)
    rename_i hN
    clear hN
    conv => whnf
    repeat first
      | (refine DRAW.seek ?_; repeat (first | refine TRYD.take ?_ | refine TRYD.next ?_); conv => whnf)
      | (refine HOLD.mk (by first | exact trivial | exact ⟨⟨rfl, rfl⟩, trivial⟩ | exact ⟨⟨rfl, rfl⟩, ⟨rfl, rfl⟩, trivial⟩) ?_; (conv => whnf))
      | (refine CALL0.cutBy lvBack _ _ _ _ _ (leL_refl _) (hPc ..) rfl ?_; conv => whnf)
      | (refine CALL0.by (hPc ..) rfl ?_; conv => whnf)
      | (refine CALLQ.mk _ _ _ (leL_refl _) (hPc ..) rfl ?_; conv => whnf)
    exact ⟨congrArg IV.bool (by simp), rfl⟩
  · rw [ge] at hPs
    have q7 : (e == 0) = false := by simpa using he0
    refine mk h_nacellelaw03_RotorBack rfl rfl ?_
    conv => whnf
    repeat first
      | (refine DRAW.seek ?_; repeat (first | refine TRYD.take ?_ | refine TRYD.next ?_); conv => whnf)
      | (refine HOLD.mk (by first | exact trivial | exact ⟨⟨rfl, rfl⟩, trivial⟩ | exact ⟨⟨rfl, rfl⟩, ⟨rfl, rfl⟩, trivial⟩) ?_; (conv => whnf))
      | (refine CALL0.cutBy lvBack _ _ _ _ _ (leL_refl _) (hA ..) rfl ?_; conv => whnf)
      | (refine CALL0.by (hA ..) rfl ?_; conv => whnf)
      | (refine CALLQ.mk _ _ _ (leL_refl _) (hA ..) rfl ?_; conv => whnf)
      | (refine CALL0.cutBy lvBack _ _ _ _ _ (leL_refl _) (hS ..) rfl ?_; conv => whnf)
      | (refine CALL0.by (hS ..) rfl ?_; conv => whnf)
      | (refine CALLQ.mk _ _ _ (leL_refl _) (hS ..) rfl ?_; conv => whnf)
      | (refine CALL0.cutBy lvBack _ _ _ _ _ (leL_refl _) (hE ..) rfl ?_; conv => whnf)
      | (refine CALL0.by (hE ..) rfl ?_; conv => whnf)
      | (refine CALLQ.mk _ _ _ (leL_refl _) (hE ..) rfl ?_; conv => whnf)
      | (refine CALL0.cutBy lvBack _ _ _ _ _ (leL_refl _) (hb ..) rfl ?_; conv => whnf)
      | (refine CALL0.by (hb ..) rfl ?_; conv => whnf)
      | (refine CALLQ.mk _ _ _ (leL_refl _) (hb ..) rfl ?_; conv => whnf)
      | (refine CALL0.cutBy lvBack _ _ _ _ _ (leL_refl _) (hP ..) rfl ?_; conv => whnf)
      | (refine CALL0.by (hP ..) rfl ?_; conv => whnf)
      | (refine CALLQ.mk _ _ _ (leL_refl _) (hP ..) rfl ?_; conv => whnf)
      | (refine CALL0.cutBy lvBack _ _ _ _ _ (leL_refl _) (hPt ..) rfl ?_; conv => whnf)
      | (refine CALL0.by (hPt ..) rfl ?_; conv => whnf)
      | (refine CALLQ.mk _ _ _ (leL_refl _) (hPt ..) rfl ?_; conv => whnf)
      | (refine CALL0.cutBy lvBack _ _ _ _ _ (leL_refl _) (hTo ..) rfl ?_; conv => whnf)
      | (refine CALL0.by (hTo ..) rfl ?_; conv => whnf)
      | (refine CALLQ.mk _ _ _ (leL_refl _) (hTo ..) rfl ?_; conv => whnf)
      | (refine CALL0.cutBy lvBack _ _ _ _ _ (leL_refl _) (hSB ..) rfl ?_; conv => whnf)
      | (refine CALL0.by (hSB ..) rfl ?_; conv => whnf)
      | (refine CALLQ.mk _ _ _ (leL_refl _) (hSB ..) rfl ?_; conv => whnf)
      | (refine CALL0.cutBy lvBack _ _ _ _ _ (leL_refl _) (hSp ..) rfl ?_; conv => whnf)
      | (refine CALL0.by (hSp ..) rfl ?_; conv => whnf)
      | (refine CALLQ.mk _ _ _ (leL_refl _) (hSp ..) rfl ?_; conv => whnf)
    split
    · rename_i h
      exact Bool.noConfusion ((q6).symm.trans h)
    rename_i hN
    clear hN
    conv => whnf
    repeat first
      | (refine DRAW.seek ?_; repeat (first | refine TRYD.take ?_ | refine TRYD.next ?_); conv => whnf)
      | (refine HOLD.mk (by first | exact trivial | exact ⟨⟨rfl, rfl⟩, trivial⟩ | exact ⟨⟨rfl, rfl⟩, ⟨rfl, rfl⟩, trivial⟩) ?_; (conv => whnf))
      | (refine CALL0.cutBy lvBack _ _ _ _ _ (leL_refl _) (hA ..) rfl ?_; conv => whnf)
      | (refine CALL0.by (hA ..) rfl ?_; conv => whnf)
      | (refine CALLQ.mk _ _ _ (leL_refl _) (hA ..) rfl ?_; conv => whnf)
      | (refine CALL0.cutBy lvBack _ _ _ _ _ (leL_refl _) (hS ..) rfl ?_; conv => whnf)
      | (refine CALL0.by (hS ..) rfl ?_; conv => whnf)
      | (refine CALLQ.mk _ _ _ (leL_refl _) (hS ..) rfl ?_; conv => whnf)
      | (refine CALL0.cutBy lvBack _ _ _ _ _ (leL_refl _) (hE ..) rfl ?_; conv => whnf)
      | (refine CALL0.by (hE ..) rfl ?_; conv => whnf)
      | (refine CALLQ.mk _ _ _ (leL_refl _) (hE ..) rfl ?_; conv => whnf)
      | (refine CALL0.cutBy lvBack _ _ _ _ _ (leL_refl _) (hb ..) rfl ?_; conv => whnf)
      | (refine CALL0.by (hb ..) rfl ?_; conv => whnf)
      | (refine CALLQ.mk _ _ _ (leL_refl _) (hb ..) rfl ?_; conv => whnf)
      | (refine CALL0.cutBy lvBack _ _ _ _ _ (leL_refl _) (hP ..) rfl ?_; conv => whnf)
      | (refine CALL0.by (hP ..) rfl ?_; conv => whnf)
      | (refine CALLQ.mk _ _ _ (leL_refl _) (hP ..) rfl ?_; conv => whnf)
      | (refine CALL0.cutBy lvBack _ _ _ _ _ (leL_refl _) (hPt ..) rfl ?_; conv => whnf)
      | (refine CALL0.by (hPt ..) rfl ?_; conv => whnf)
      | (refine CALLQ.mk _ _ _ (leL_refl _) (hPt ..) rfl ?_; conv => whnf)
      | (refine CALL0.cutBy lvBack _ _ _ _ _ (leL_refl _) (hTo ..) rfl ?_; conv => whnf)
      | (refine CALL0.by (hTo ..) rfl ?_; conv => whnf)
      | (refine CALLQ.mk _ _ _ (leL_refl _) (hTo ..) rfl ?_; conv => whnf)
      | (refine CALL0.cutBy lvBack _ _ _ _ _ (leL_refl _) (hSB ..) rfl ?_; conv => whnf)
      | (refine CALL0.by (hSB ..) rfl ?_; conv => whnf)
      | (refine CALLQ.mk _ _ _ (leL_refl _) (hSB ..) rfl ?_; conv => whnf)
      | (refine CALL0.cutBy lvBack _ _ _ _ _ (leL_refl _) (hSp ..) rfl ?_; conv => whnf)
      | (refine CALL0.by (hSp ..) rfl ?_; conv => whnf)
      | (refine CALLQ.mk _ _ _ (leL_refl _) (hSp ..) rfl ?_; conv => whnf)
    split
    · rename_i h
      exact Bool.noConfusion ((q1).symm.trans h)
    rename_i hN
    clear hN
    conv => whnf
    repeat first
      | (refine DRAW.seek ?_; repeat (first | refine TRYD.take ?_ | refine TRYD.next ?_); conv => whnf)
      | (refine HOLD.mk (by first | exact trivial | exact ⟨⟨rfl, rfl⟩, trivial⟩ | exact ⟨⟨rfl, rfl⟩, ⟨rfl, rfl⟩, trivial⟩) ?_; (conv => whnf))
      | (refine CALL0.cutBy lvBack _ _ _ _ _ (leL_refl _) (hPs ..) rfl ?_; conv => whnf)
      | (refine CALL0.by (hPs ..) rfl ?_; conv => whnf)
      | (refine CALLQ.mk _ _ _ (leL_refl _) (hPs ..) rfl ?_; conv => whnf)
    split
    · rename_i h
      exact Bool.noConfusion ((q7).symm.trans h)
    rename_i hN
    clear hN
    conv => whnf
    split
    rotate_left
    · rename_i h
      exact Bool.noConfusion ((qa).symm.trans h)
    rename_i hN
    clear hN
    conv => whnf
    split
    rotate_left
    · rename_i h
      exact Bool.noConfusion ((qb).symm.trans h)
    rename_i hN
    clear hN
    conv => whnf
    repeat first
      | (refine DRAW.seek ?_; repeat (first | refine TRYD.take ?_ | refine TRYD.next ?_); conv => whnf)
      | (refine HOLD.mk (by first | exact trivial | exact ⟨⟨rfl, rfl⟩, trivial⟩ | exact ⟨⟨rfl, rfl⟩, ⟨rfl, rfl⟩, trivial⟩) ?_; (conv => whnf))
      | (refine CALL0.cutBy lvBack _ _ _ _ _ (leL_refl _) (hPc ..) rfl ?_; conv => whnf)
      | (refine CALL0.by (hPc ..) rfl ?_; conv => whnf)
      | (refine CALLQ.mk _ _ _ (leL_refl _) (hPc ..) rfl ?_; conv => whnf)
    exact ⟨congrArg IV.bool (by simp), rfl⟩
theorem c_RotorBack (up : List Ces) (hr : gl g_rotor_roots = rootsI) (hp : gl g_internal_strconv_uint64pow10 = powI) (h2 : gl g_strconv_ErrSyntax = errI) (h3 : gl g_strconv_ErrRange = errI) (b : Bl) (s : ByteArray) :
    Cs gl n_nacellelaw03_RotorBack up [b.iv, .str s] (.bool true) up := by
  cases hs : b.short with
  | false => exact back_no up hr hp b s (.inl hs)
  | true =>
  by_cases he : b.err = 0
  · cases q6 : decide ((s.size : Int) > 300) with
    | true => exact back_no up hr hp b s (.inr (.inr ⟨hs, he, q6⟩))
    | false => exact back_go up hr hp h2 h3 b s hs he q6
  · exact back_no up hr hp b s (.inr (.inl ⟨hs, he⟩))
end Go.Proofs.YtfoenhiohhmnlaaGreatDoor.Ix
