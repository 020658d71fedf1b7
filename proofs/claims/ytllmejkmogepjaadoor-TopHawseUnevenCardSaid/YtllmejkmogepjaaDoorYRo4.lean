/-
  Ro4: contracts of the functions of the package rotor, the fourth part: the torque and the thrust of a ring.
-/
import Derived.Test.YtllmejkmogepjaaDoorYRo3
namespace Go.Proofs.YtllmejkmogepjaaDoor.Ix
open Go.Proofs
set_option maxRecDepth 100000
set_option linter.unusedVariables false
variable {gl : Nat → IV}

def Bl.infl (b : Bl) (f : Fl) (i : Nat) (a : Int) (d : Nat) : Int := inflP (b.r1 i) f.w f.s a d
def Bl.of (b : Bl) (f : Fl) (i : Nat) (x : Int) : Int := ofP b.nl b.lf b.df (b.r1 i) (b.r2 i) (b.r3 i) (b.r4 i) f.p x

def Bl.stp (b : Bl) (f : Fl) (i : Nat) (a : Int) (d : Nat) (k : Nat) : Int × Int := stepsP b.nl b.lf b.df (b.r1 i) (b.r2 i) (b.r3 i) (b.r4 i) f.p (b.infl f i (a + 1) d) (b.infl f i a d) k

theorem c_inflP (up : List Ces) (b : Bl) (f : Fl) (i : Nat) (h : b.ok f i) (a a' : Int) (d : Nat) (hd : d ≤ 12) (h0 : 0 ≤ a) (h1 : a ≤ 2 ^ d) (e : a' = a) :
    Cs gl n_rotor_section_inflow up [secAt b f i, .agg [.int .i64 a', .int .i64 d]] (.int .i64 (b.infl f i a d)) up := by
  subst e
  have o := balOK h hd h0 h1
  have := c_inflow (gl := gl) up b.nl b.nd b.lf b.df (b.r1 i) (b.r2 i) (b.r3 i) (b.r4 i) f.w f.s f.p a' d o.d0 o.den
  rw [inflowW_eq h hd h0 h1] at this
  exact this

/-- The cells of the ring 'i'. -/
abbrev secC (b : Bl) (f : Fl) (i : Nat) : List IV := secL b.nl b.nd b.lf b.df (b.r1 i) (b.r2 i) (b.r3 i) (b.r4 i) f.w f.s f.p

theorem c_ofP (ce : Ces) (up : List Ces) (k : Nat) (b : Bl) (f : Fl) (i : Nat) (h : b.ok f i) (hn : b.nd = b.nl) (x x' : Int) (e' : x' = x) (h1 : -100000 ≤ x) (h2 : x ≤ 100000) (hc : lookC ce k = some (secC b f i)) :
    Cs gl n_rotor_section_torque_1 (ce :: up) [.int .i64 x', .ptr 1 k 0] (.int .i64 (b.of f i x)) (ce :: up) := by
  subst e'
  have hcl := clsP_lo h x'
  have e := classW_eq h (x := x') (by omega) (by omega)
  have := c_torque1 (gl := gl) ce up k b.nl b.nd b.lf b.df (b.r1 i) (b.r2 i) (b.r3 i) (b.r4 i) f.w f.s f.p x' (by rw [e]; exact hcl.1) (by rw [e]; exact hcl.2) (by rw [e, hn]; exact hcl.2) hc
  rw [(ofP_bound h h1 h2).2.2] at this
  exact this

theorem infl_rng {b : Bl} {f : Fl} {i : Nat} (h : b.ok f i) {a : Int} {d : Nat} (h0 : 0 ≤ a) (h1 : a ≤ 2 ^ d) : 0 ≤ b.infl f i a d ∧ b.infl f i a d ≤ 51200 := ⟨inflP_nonneg h h1, inflP_le h h0⟩

theorem c_torque (up : List Ces) (b : Bl) (f : Fl) (i : Nat) (h : b.ok f i) (hn : b.nd = b.nl) (a : Int) (d : Nat) (hd : d ≤ 12) (h0 : 0 ≤ a) (h1 : a + 1 ≤ 2 ^ d) :
    Cs gl n_rotor_section_torque up [secAt b f i, .agg [.int .i64 a, .int .i64 d]] (.agg [.int .i64 (b.tor f i a d).1, .int .i64 (b.tor f i a d).2]) up := by
  refine mk h_rotor_section_torque rfl rfl ?_
  have hp := two_pos d
  have hl := pow_le12 hd
  have hn1 := h.n1
  have ht := h.t
  have hpp := h.p
  have e1 : w64 (a + 1) = a + 1 := by rw [w64, wrap_in] <;> omega
  have r1 := infl_rng h (d := d) (a := a + 1) (by omega) h1
  have r2 := infl_rng h (d := d) (a := a) h0 (by omega)
  conv => whnf
  refine .mk 7 (by kernel_rfl) ?_
  conv => whnf
  refine .mk _ _ _ (leL_refl _) (c_next _ _ _) rfl ?_
  conv => whnf
  refine .mk _ _ _ (leL_refl _) (c_inflP _ b f i h (a + 1) _ d hd (by omega) h1 e1) rfl ?_
  conv => whnf
  refine .mk _ _ _ (leL_refl _) (c_inflP _ b f i h a _ d hd h0 (by omega) rfl) rfl ?_
  conv => whnf
  refine .mk _ _ _ _ _ (leL_refl _) (c_ofP _ _ 2 b f i h hn _ _ rfl (by omega) (by omega) rfl) rfl ?_
  conv => whnf
  refine .mk _ _ _ _ _ (leL_refl _) (c_ofP _ _ 2 b f i h hn _ _ rfl (by omega) (by omega) rfl) rfl ?_
  conv => whnf
  refine .mk _ _ _ _ _ (leL_refl _) (c_ofP _ _ 2 b f i h hn _ _ rfl (by omega) (by omega) rfl) rfl ?_
  conv => whnf
  refine .mk _ _ _ _ _ (leL_refl _) (c_ofP _ _ 2 b f i h hn _ _ rfl (by omega) (by omega) rfl) rfl ?_
  conv => whnf
  have emin : (if b.of f i (b.infl f i a d) < b.of f i (b.infl f i (a + 1) d) then b.of f i (b.infl f i a d) else b.of f i (b.infl f i (a + 1) d)) = (b.stp f i a d 0).1 := by
    show _ = min (b.of f i (b.infl f i (a + 1) d)) (b.of f i (b.infl f i a d))
    omega
  have emax : (if b.of f i (b.infl f i a d) > b.of f i (b.infl f i (a + 1) d) then b.of f i (b.infl f i a d) else b.of f i (b.infl f i (a + 1) d)) = (b.stp f i a d 0).2 := by
    show _ = max (b.of f i (b.infl f i (a + 1) d)) (b.of f i (b.infl f i a d))
    omega
  have en : w64 ((b.nl : Int) + 2) = ((b.nl + 2 : Nat) : Int) := by rw [w64, wrap_in] <;> omega
  refine .mk (α := {k : Nat // k ≤ b.nl + 2}) (fun k => ⟨[(39, .int .i64 k.1), (38, .int .i64 ((b.nl + 2 : Nat) : Int)), (5, .int .i64 (b.infl f i (a + 1) d)), (6, .int .i64 (b.infl f i a d)), (7, .fn n_rotor_section_torque_1 [] [.ptr 0 2 0]), (2, .ptr 0 2 0), (4, .ptr 0 4 0), (8, .ptr 0 8 0)],
      [(8, [.int .i64 (b.stp f i a d k.1).1, .int .i64 (b.stp f i a d k.1).2]), (4, [.int .i64 0, .int .i64 0]), (2, secC b f i)], up⟩) (fun k => b.nl + 2 - k.1) ⟨0, Nat.zero_le _⟩ ⟨?_, ?_, rfl, rfl⟩ ?_
  · exact ⟨leV_refl _, leV_int en, leV_refl _, leV_refl _, leV_refl _, leV_refl _, leV_refl _, leV_refl _, trivial⟩
  · exact ⟨⟨leV_int emin, leV_int emax, trivial⟩, leL_refl _, leL_refl _, trivial⟩
  · rintro ⟨k, hk⟩
    have ej : w64 (w64 (w64 (b.r3 i + f.p) + k) - 1) = b.r3 i + f.p + k - 1 := by
      have q1 : w64 (b.r3 i + f.p) = b.r3 i + f.p := by rw [w64, wrap_in] <;> omega
      rw [q1]
      have q2 : w64 (b.r3 i + f.p + k) = b.r3 i + f.p + k := by rw [w64, wrap_in] <;> omega
      rw [q2, w64, wrap_in] <;> omega
    have hw : w64 ((k : Int) + 1) = ((k + 1 : Nat) : Int) := by rw [w64, wrap_in] <;> omega
    conv => whnf
    split
    · rename_i hb
      have hlt : k < b.nl + 2 := by
        have hb' : decide ((k : Int) < ((b.nl + 2 : Nat) : Int)) = true := hb
        simp at hb'; omega
      conv => whnf
      refine .mk _ _ _ _ _ (leL_refl _) (c_shift _ _ _ _ _ _ _ _ _ _ _ _) rfl ?_
      conv => whnf
      split
      · rename_i g1
        have g1 : decide (w64 (w64 (w64 (b.r3 i + f.p) + k) - 1) > b.infl f i (a + 1) d) = true := g1
        rw [ej] at g1
        conv => whnf
        split
        · rename_i g2
          have g2 : decide (w64 (w64 (w64 (b.r3 i + f.p) + k) - 1) < b.infl f i a d) = true := g2
          rw [ej] at g2
          simp at g1 g2
          have hs : b.stp f i a d (k + 1) = (min (b.stp f i a d k).1 (b.of f i (b.r3 i + f.p + k - 1)), max (b.stp f i a d k).2 (b.of f i (b.r3 i + f.p + k - 1))) := by
            show (if _ then _ else _) = _
            rw [if_pos ⟨g1, g2⟩]; rfl
          conv => whnf
          refine .mk 13 (by kernel_rfl) ?_
          conv => whnf
          refine .mk _ _ _ (leL_refl _) (c_ofP _ _ 2 b f i h hn _ _ ej (by omega) (by omega) rfl) rfl ?_
          conv => whnf
          refine .mk _ _ _ (leL_refl _) (c_ofP _ _ 2 b f i h hn _ _ ej (by omega) (by omega) rfl) rfl ?_
          conv => whnf
          refine ⟨⟨k + 1, hlt⟩, ⟨⟨leV_int hw, leV_refl _, leV_refl _, leV_refl _, leV_refl _, leV_refl _, leV_refl _, leV_refl _, trivial⟩, ⟨⟨leV_int ?_, leV_int ?_, trivial⟩, leL_refl _, leL_refl _, trivial⟩, rfl, rfl⟩, ?_⟩
          · show (if b.of f i (b.r3 i + f.p + k - 1) < (b.stp f i a d k).1 then b.of f i (b.r3 i + f.p + k - 1) else (b.stp f i a d k).1) = _
            rw [hs]; simp only; omega
          · show (if b.of f i (b.r3 i + f.p + k - 1) > (b.stp f i a d k).2 then b.of f i (b.r3 i + f.p + k - 1) else (b.stp f i a d k).2) = _
            rw [hs]; simp only; omega
          · show b.nl + 2 - (k + 1) < b.nl + 2 - k
            omega
        · rename_i g2
          have g2 : decide (w64 (w64 (w64 (b.r3 i + f.p) + k) - 1) < b.infl f i a d) = false := g2
          rw [ej] at g2
          simp at g1 g2
          have hs : b.stp f i a d (k + 1) = b.stp f i a d k := by
            show (if _ then _ else _) = _
            exact if_neg fun g => absurd g.2 (Int.not_lt.2 g2)
          conv => whnf
          refine ⟨⟨k + 1, hlt⟩, ⟨⟨leV_int hw, leV_refl _, leV_refl _, leV_refl _, leV_refl _, leV_refl _, leV_refl _, leV_refl _, trivial⟩, ⟨⟨leV_int ?_, leV_int ?_, trivial⟩, leL_refl _, leL_refl _, trivial⟩, rfl, rfl⟩, ?_⟩
          · show (b.stp f i a d k).1 = _
            rw [hs]
          · show (b.stp f i a d k).2 = _
            rw [hs]
          · show b.nl + 2 - (k + 1) < b.nl + 2 - k
            omega
      · rename_i g1
        have g1 : decide (w64 (w64 (w64 (b.r3 i + f.p) + k) - 1) > b.infl f i (a + 1) d) = false := g1
        rw [ej] at g1
        simp at g1
        have hs : b.stp f i a d (k + 1) = b.stp f i a d k := by
          show (if _ then _ else _) = _
          exact if_neg fun g => absurd g.1 (Int.not_lt.2 g1)
        conv => whnf
        refine ⟨⟨k + 1, hlt⟩, ⟨⟨leV_int hw, leV_refl _, leV_refl _, leV_refl _, leV_refl _, leV_refl _, leV_refl _, leV_refl _, trivial⟩, ⟨⟨leV_int ?_, leV_int ?_, trivial⟩, leL_refl _, leL_refl _, trivial⟩, rfl, rfl⟩, ?_⟩
        · show (b.stp f i a d k).1 = _
          rw [hs]
        · show (b.stp f i a d k).2 = _
          rw [hs]
        · show b.nl + 2 - (k + 1) < b.nl + 2 - k
          omega
    · rename_i hb
      have : k = b.nl + 2 := by
        have hb' : decide ((k : Int) < ((b.nl + 2 : Nat) : Int)) = false := hb
        simp at hb'; omega
      subst this
      conv => whnf
      exact ⟨rfl, rfl⟩

theorem c_thrust1 (ce : Ces) (up : List Ces) (k m : Nat) (b : Bl) (f : Fl) (i : Nat) (h : b.ok f i) (a : Int) (d : Nat) (hd : d ≤ 12) (x x' : Int) (e' : x' = x) (h0 : 0 ≤ x) (h1 : x ≤ 2 ^ d)
    (hx : lookC ce k = some [.int .i64 a, .int .i64 d]) (hs : lookC ce m = some (secC b f i)) :
    Cs gl n_rotor_section_thrust_1 (ce :: up) [.int .i64 x', .ptr 1 k 0, .ptr 1 m 0] (.int .i64 (thrustP (b.r1 i) x d)) (ce :: up) := by
  subst e'
  refine mk h_rotor_section_thrust_1 rfl rfl ?_
  have e := (thrustP_bound h hd h0 h1).2.2
  conv => whnf
  refine .mk 12 (by kernel_rfl) ?_
  conv => whnf
  split
  rotate_left
  · rename_i h; exact absurd (hx.symm.trans h) nofun
  rename_i c0 h
  obtain rfl := Option.some.inj (hx.symm.trans h)
  clear h
  conv => whnf
  split
  rotate_left
  · rename_i h; exact absurd (hs.symm.trans h) nofun
  rename_i c0 h
  obtain rfl := Option.some.inj (hs.symm.trans h)
  clear h
  conv => whnf
  refine ⟨?_, rfl⟩
  rw [← e]; rfl

theorem c_thrust (up : List Ces) (b : Bl) (f : Fl) (i : Nat) (h : b.ok f i) (a : Int) (d : Nat) (hd : d ≤ 12) (h0 : 0 ≤ a) (h1 : a + 1 ≤ 2 ^ d) :
    Cs gl n_rotor_section_thrust up [secAt b f i, .agg [.int .i64 a, .int .i64 d]] (.agg [.int .i64 (b.thr i a d).1, .int .i64 (b.thr i a d).2]) up := by
  refine mk h_rotor_section_thrust rfl rfl ?_
  have hp := two_pos d
  have hl := pow_le12 hd
  have e1 : w64 (a + 1) = a + 1 := by rw [w64, wrap_in] <;> omega
  conv => whnf
  refine .mk 10 (by kernel_rfl) ?_
  conv => whnf
  refine .mk _ _ _ (leL_refl _) (c_thrust1 _ _ 3 2 b f i h a d hd _ _ rfl h0 (by omega) rfl rfl) rfl ?_
  conv => whnf
  refine .mk _ _ _ (leL_refl _) (c_thrust1 _ _ 3 2 b f i h a d hd _ _ e1 (by omega) h1 rfl rfl) rfl ?_
  conv => whnf
  exact ⟨rfl, rfl⟩

end Go.Proofs.YtllmejkmogepjaaDoor.Ix
