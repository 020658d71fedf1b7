/-
  Ro3: contracts of the functions of the package rotor, the third part: Balance, Find, CheckBracket, Refine.
-/
import Derived.Test.YtllmejkmogepjaaDoorYRo2
namespace Go.Proofs.YtllmejkmogepjaaDoor.Ix
open Go.Proofs
set_option maxRecDepth 100000
set_option linter.unusedVariables false
variable {gl : Nat → IV}

theorem c_checkRing (up : List Ces) (b : Bl) (f : Fl) (ring : Int) : Cs gl n_rotor_checkRing up [b.iv, f.iv, .int .i64 ring] (.int .i64 (ringErr b f ring)) up := by
  refine mk h_rotor_checkRing rfl rfl ?_
  conv => whnf
  refine .mk 16 (by kernel_rfl) ?_
  conv => whnf
  refine .mk _ _ _ (leL_refl _) (c_CheckBlade _ _ _ _ _ _ _ _ _ _) rfl ?_
  conv => whnf
  refine .mk _ _ _ (leL_refl _) (c_CheckFlow' _ _ _ _) rfl ?_
  conv => whnf
  split
  · rename_i h
    have h' : decide (ring < 0) = true := h
    conv => whnf
    refine .mk _ _ _ (leL_refl _) (c_when _ _ _) rfl ?_
    conv => whnf
    refine .mk _ _ _ (leL_refl _) (c_f3 _ _ _ _ _ rfl rfl rfl) rfl ?_
    conv => whnf
    refine ⟨?_, rfl⟩
    unfold ringErr
    rw [h', Bool.true_or]; rfl
  · rename_i h
    have h' : decide (ring < 0) = false := h
    conv => whnf
    refine .mk _ _ _ (leL_refl _) (c_when _ _ _) rfl ?_
    conv => whnf
    refine .mk _ _ _ (leL_refl _) (c_f3 _ _ _ _ _ rfl rfl rfl) rfl ?_
    conv => whnf
    refine ⟨?_, rfl⟩
    unfold ringErr
    rw [h', Bool.false_or]; rfl

theorem c_IndCheck (up : List Ces) (a d : Int) : Cs gl n_rotor_Induction_check up [.agg [.int .i64 a, .int .i64 d]] (.int .i64 (indErr a d)) up := by
  refine mk h_rotor_Induction_check rfl rfl ?_
  conv => whnf
  refine .mk _ _ _ _ _ (leL_refl _) (c_checkDepth _ _) rfl ?_
  conv => whnf
  split
  · rename_i h
    have h' : (withinS d 1 12 != 0) = true := h
    conv => whnf
    refine ⟨?_, rfl⟩
    unfold indErr
    rw [orE_pos h']
  · rename_i h
    have h' : (withinS d 1 12 != 0) = false := h
    have h0 : withinS d 1 12 = 0 := by simpa using h'
    rw [withinS_zero] at h0
    have e1 : w64 (d - 1) = ((d - 1).toNat : Int) := by rw [w64, wrap_in] <;> omega
    have e2 : halfW d = 2 ^ (d - 1).toNat := by
      have := halfW_eq (d := d.toNat) (by omega) (by omega)
      rw [show ((d.toNat : Nat) : Int) = d by omega] at this
      rw [this]; congr 1; omega
    conv => whnf
    refine .mk 7 (by kernel_rfl) ?_
    conv => whnf
    split
    rotate_left
    · rename_i h
      have h' : decide (0 ≤ w64 (d - 1)) = false := h
      simp at h' <;> omega
    conv => whnf
    refine .mk _ _ _ (leL_refl _) (c_within _ _ _ _) rfl ?_
    conv => whnf
    refine ⟨?_, rfl⟩
    show IV.int .i64 (withinS a 0 (halfW d)) = _
    unfold indErr
    rw [orE_neg h', e2]

theorem c_checkAll (up : List Ces) (b : Bl) (f : Fl) (d : Int) : Cs gl n_rotor_checkAll up [b.iv, f.iv, .int .i64 d] (.int .i64 (allErr b f d)) up := by
  refine mk h_rotor_checkAll rfl rfl ?_
  conv => whnf
  refine .mk 8 (by kernel_rfl) ?_
  conv => whnf
  refine .mk _ _ _ (leL_refl _) (c_CheckBlade _ _ _ _ _ _ _ _ _ _) rfl ?_
  conv => whnf
  refine .mk _ _ _ (leL_refl _) (c_CheckFlow' _ _ _ _) rfl ?_
  conv => whnf
  refine .mk _ _ _ (leL_refl _) (c_checkDepth _ _) rfl ?_
  conv => whnf
  refine .mk _ _ _ (leL_refl _) (c_f3 _ _ _ _ _ rfl rfl rfl) rfl ?_
  conv => whnf
  exact ⟨rfl, rfl⟩

/-- The ring 'i' of a blade in a flow. -/
abbrev secAt (b : Bl) (f : Fl) (i : Nat) : IV := secI b.nl b.nd b.lf b.df (b.r1 i) (b.r2 i) (b.r3 i) (b.r4 i) f.w f.s f.p

theorem c_balP (up : List Ces) (b : Bl) (f : Fl) (i : Nat) (h : b.ok f i) (a : Int) (d : Nat) (hd : d ≤ 12) (h0 : 0 ≤ a) (h1 : a ≤ 2 ^ d) :
    Cs gl n_rotor_section_balance up [secAt b f i, .agg [.int .i64 a, .int .i64 d]] (.int .i64 (b.bal f i a d)) up := by
  have o := balOK h hd h0 h1
  have := c_balance (gl := gl) up b.nl b.nd b.lf b.df (b.r1 i) (b.r2 i) (b.r3 i) (b.r4 i) f.w f.s f.p a d o.d0 o.den o.lo o.hi
  rw [balanceW_eq h hd h0 h1] at this
  exact this

theorem c_Balance (up : List Ces) (b : Bl) (f : Fl) (ring a d : Int) : Cs gl n_rotor_Balance up [b.iv, f.iv, .int .i64 ring, .agg [.int .i64 a, .int .i64 d]] (balR b f ring a d) up := by
  refine mk h_rotor_Balance rfl rfl ?_
  unfold balR
  simp only
  conv => whnf
  refine .mk 8 (by kernel_rfl) ?_
  conv => whnf
  refine .mk _ _ _ (leL_refl _) (c_checkRing _ b f _) rfl ?_
  conv => whnf
  refine .mk _ _ _ (leL_refl _) (c_IndCheck _ _ _) rfl ?_
  conv => whnf
  refine .mk _ _ _ (leL_refl _) (c_f2 _ _ _ _ rfl rfl) rfl ?_
  conv => whnf
  split
  · rename_i h
    have h' : (orE (ringErr b f ring) (indErr a d) != 0) = true := h
    conv => whnf
    refine ⟨?_, rfl⟩
    rw [h']; rfl
  · rename_i h
    have h' : (orE (ringErr b f ring) (indErr a d) != 0) = false := h
    have h0 : orE (ringErr b f ring) (indErr a d) = 0 := by simpa using h'
    rw [h']
    have hz := h0
    rw [orE_zero] at h0
    obtain ⟨g1, g2, g3, g4⟩ := ringErr_ok h0.1
    obtain ⟨n, rfl, k2, k3, k4⟩ := indErr_ok h0.2
    obtain ⟨_, _, _, ok⟩ := Bl.good g1 g2
    have hp := Int.pow_succ (2 : Int) n
    have hq := two_pos n
    conv => whnf
    refine .mk 12 (by kernel_rfl) ?_
    conv => whnf
    split
    rotate_left
    · rename_i h
      have h' : decide (0 ≤ ring) = false := h
      simp at h' <;> omega
    conv => whnf
    split
    rotate_left
    · rename_i h
      have h' : decide (ring < b.nr) = false := h
      simp at h' <;> omega
    conv => whnf
    refine .mk _ _ _ (leL_refl _) (c_balP _ b f ring.toNat (ok _ (by omega)) a (n + 1) (by omega) k3 (by omega)) rfl ?_
    conv => whnf
    refine ⟨?_, rfl⟩
    rw [hz]; rfl

theorem findS_congr {f g : Int → Int} {half : Int} (h0 : 0 ≤ half) (h : ∀ a, 0 ≤ a → a ≤ half → f a = g a) : findS f half = findS g half := by
  unfold findS
  rw [h half h0 (Int.le_refl _), searchS_congr _ _ _ h]

/-- What 'find' hands back. -/
def findI (o : Option Int) (d : Int) : IV := match o with
  | none => .tup [.agg [.int .i64 0, .int .i64 0], .bool false]
  | some a => .tup [.agg [.int .i64 a, .int .i64 d], .bool true]

theorem c_findP (up : List Ces) (b : Bl) (f : Fl) (i : Nat) (h : b.ok f i) (d : Nat) (hd : d < 12) :
    Cs gl n_rotor_section_find up [secAt b f i, .int .i64 ((d + 1 : Nat) : Int)] (findI (b.br f i d) ((d + 1 : Nat) : Int)) up := by
  have hh : halfW ((d + 1 : Nat) : Int) = 2 ^ d := halfW_eq (d := d + 1) (by omega) (by omega)
  have hp := two_pos d
  have hl := pow_le12 (d := d) (by omega)
  have hs := Int.pow_succ (2 : Int) d
  refine c_find (gl := gl) up b.nl b.nd b.lf b.df (b.r1 i) (b.r2 i) (b.r3 i) (b.r4 i) f.w f.s f.p _ (2 ^ d) ?_ hh ⟨by omega, by omega⟩ (fun a h1 h2 => balOK h (by omega) h1 (by omega)) _ ?_
  · rw [w64, wrap_in] <;> omega
  · have e : findS (fun a => balanceW b.nl b.lf (b.r1 i) (b.r2 i) (b.r3 i) (b.r4 i) f.w f.s f.p a ((d + 1 : Nat) : Int)) (2 ^ d) = b.br f i d := by
      unfold Bl.br brP
      exact findS_congr (by omega) fun a h1 h2 => balanceW_eq h (by omega) h1 (by omega)
    rw [e]
    unfold findI
    cases b.br f i d <;> rfl

theorem c_Find (up : List Ces) (b : Bl) (f : Fl) (ring d : Int) : Cs gl n_rotor_Find up [b.iv, f.iv, .int .i64 ring, .int .i64 d] (findR b f ring d) up := by
  refine mk h_rotor_Find rfl rfl ?_
  unfold findR
  simp only
  conv => whnf
  refine .mk _ _ _ _ _ (leL_refl _) (c_checkRing _ b f _) rfl ?_
  conv => whnf
  refine .mk _ _ _ _ _ (leL_refl _) (c_checkDepth _ _) rfl ?_
  conv => whnf
  refine .mk _ _ _ _ _ (leL_refl _) (c_f2 _ _ _ _ rfl rfl) rfl ?_
  conv => whnf
  split
  · rename_i h
    have h' : (orE (ringErr b f ring) (withinS d 1 12) != 0) = true := h
    conv => whnf
    refine ⟨?_, rfl⟩
    rw [h']; rfl
  · rename_i h
    have h' : (orE (ringErr b f ring) (withinS d 1 12) != 0) = false := h
    have h0 : orE (ringErr b f ring) (withinS d 1 12) = 0 := by simpa using h'
    rw [h', cond_false]
    rw [orE_zero, withinS_zero] at h0
    obtain ⟨g1, g2, g3, g4⟩ := ringErr_ok h0.1
    obtain ⟨_, _, _, ok⟩ := Bl.good g1 g2
    obtain ⟨n, rfl⟩ : ∃ n : Nat, d = ((n + 1 : Nat) : Int) := ⟨(d - 1).toNat, by omega⟩
    rw [show (((n + 1 : Nat) : Int) - 1).toNat = n by omega]
    have hf := fun up => c_findP (gl := gl) up b f ring.toNat (ok _ (by omega)) n (by omega)
    conv => whnf
    refine .mk 16 (by kernel_rfl) ?_
    conv => whnf
    split
    rotate_left
    · rename_i h
      have h' : decide (0 ≤ ring) = false := h
      simp at h' <;> omega
    conv => whnf
    split
    rotate_left
    · rename_i h
      have h' : decide (ring < b.nr) = false := h
      simp at h' <;> omega
    conv => whnf
    generalize b.br f ring.toNat n = o at hf ⊢
    cases o with
    | none =>
      refine .mk _ _ _ (leL_refl _) (hf _) rfl ?_
      conv => whnf
      refine .mk 4 (by kernel_rfl) ?_
      conv => whnf
      refine .mk _ _ _ (leL_refl _) (c_when _ _ _) rfl ?_
      conv => whnf
      exact ⟨rfl, rfl⟩
    | some a =>
      refine .mk _ _ _ (leL_refl _) (hf _) rfl ?_
      conv => whnf
      refine .mk 4 (by kernel_rfl) ?_
      conv => whnf
      refine .mk _ _ _ (leL_refl _) (c_when _ _ _) rfl ?_
      conv => whnf
      exact ⟨rfl, rfl⟩

theorem c_isBr (up : List Ces) (b : Bl) (f : Fl) (i : Nat) (h : b.ok f i) (a : Int) (d : Nat) (hd : d ≤ 12) (hd1 : 1 ≤ d) (h0 : 0 ≤ a) (h1 : a ≤ 2 ^ (d - 1)) :
    Cs gl n_rotor_section_brackets up [secAt b f i, .agg [.int .i64 a, .int .i64 d]] (.bool (isBr b f i a d)) up := by
  have hp := two_pos (d - 1)
  have hl := pow_le12 (d := d - 1) (by omega)
  have hs := pow_half hd1
  have e1 : w64 (a + 1) = a + 1 := by rw [w64, wrap_in] <;> omega
  have := c_brackets (gl := gl) up b.nl b.nd b.lf b.df (b.r1 i) (b.r2 i) (b.r3 i) (b.r4 i) f.w f.s f.p a d (by rw [w64, wrap_in] <;> omega) (balOK h hd h0 (by omega)) (by rw [e1]; exact balOK h hd (by omega) (by omega))
  have e : bracketsW b.nl b.lf (b.r1 i) (b.r2 i) (b.r3 i) (b.r4 i) f.w f.s f.p a d = isBr b f i a d := by
    unfold bracketsW isBr
    rw [halfW_eq hd hd1, e1, balanceW_eq h hd h0 (by omega), balanceW_eq h hd (by omega) (by omega)]
    rfl
  rw [← e]; exact this

theorem c_CheckBracket (up : List Ces) (b : Bl) (f : Fl) (ring a d : Int) : Cs gl n_rotor_CheckBracket up [b.iv, f.iv, .int .i64 ring, .agg [.int .i64 a, .int .i64 d]] (.int .i64 (brErr b f ring a d)) up := by
  refine mk h_rotor_CheckBracket rfl rfl ?_
  unfold brErr
  conv => whnf
  refine .mk 8 (by kernel_rfl) ?_
  conv => whnf
  refine .mk _ _ _ (leL_refl _) (c_checkRing _ b f _) rfl ?_
  conv => whnf
  refine .mk _ _ _ (leL_refl _) (c_IndCheck _ _ _) rfl ?_
  conv => whnf
  refine .mk _ _ _ (leL_refl _) (c_f2 _ _ _ _ rfl rfl) rfl ?_
  conv => whnf
  split
  · rename_i h
    have h' : (orE (ringErr b f ring) (indErr a d) != 0) = true := h
    conv => whnf
    refine ⟨?_, rfl⟩
    rw [orE_pos h']
  · rename_i h
    have h' : (orE (ringErr b f ring) (indErr a d) != 0) = false := h
    have h0 : orE (ringErr b f ring) (indErr a d) = 0 := by simpa using h'
    rw [orE_neg h']
    rw [orE_zero] at h0
    obtain ⟨g1, g2, g3, g4⟩ := ringErr_ok h0.1
    obtain ⟨n, rfl, k2, k3, k4⟩ := indErr_ok h0.2
    obtain ⟨_, _, _, ok⟩ := Bl.good g1 g2
    conv => whnf
    refine .mk 13 (by kernel_rfl) ?_
    conv => whnf
    split
    rotate_left
    · rename_i h
      have h' : decide (0 ≤ ring) = false := h
      simp at h' <;> omega
    conv => whnf
    split
    rotate_left
    · rename_i h
      have h' : decide (ring < b.nr) = false := h
      simp at h' <;> omega
    conv => whnf
    refine .mk _ _ _ (leL_refl _) (c_isBr _ b f ring.toNat (ok _ (by omega)) a (n + 1) (by omega) (by omega) k3 (by simpa using k4)) rfl ?_
    conv => whnf
    refine .mk _ _ _ (leL_refl _) (c_when _ _ _) rfl ?_
    conv => whnf
    exact ⟨rfl, rfl⟩

theorem c_Refine (up : List Ces) (b : Bl) (f : Fl) (ring a d : Int) : Cs gl n_rotor_Refine up [b.iv, f.iv, .int .i64 ring, .agg [.int .i64 a, .int .i64 d]] (refineR b f ring a d) up := by
  refine mk h_rotor_Refine rfl rfl ?_
  unfold refineR
  simp only
  conv => whnf
  refine .mk 11 (by kernel_rfl) ?_
  conv => whnf
  refine .mk _ _ _ (leL_refl _) (c_CheckBracket _ b f _ _ _) rfl ?_
  conv => whnf
  refine .mk _ _ _ (leL_refl _) (c_when _ _ _) rfl ?_
  conv => whnf
  refine .mk _ _ _ (leL_refl _) (c_f2 _ _ _ _ rfl rfl) rfl ?_
  conv => whnf
  split
  · rename_i h
    have h' : (orE (brErr b f ring a d) (bif d == 12 then 23 else 0) != 0) = true := h
    conv => whnf
    refine ⟨?_, rfl⟩
    rw [h']; rfl
  · rename_i h
    have h' : (orE (brErr b f ring a d) (bif d == 12 then 23 else 0) != 0) = false := h
    have h0 : orE (brErr b f ring a d) (bif d == 12 then 23 else 0) = 0 := by simpa using h'
    rw [h', cond_false]
    simp only [brErr, orE_zero] at h0
    rw [bif_zero (by decide), bif_zero (by decide)] at h0
    simp at h0
    obtain ⟨⟨⟨q1, q2⟩, q3⟩, q4⟩ := h0
    obtain ⟨g1, g2, g3, g4⟩ := ringErr_ok q1
    obtain ⟨n, rfl, k2, k3, k4⟩ := indErr_ok q2
    obtain ⟨_, _, _, ok⟩ := Bl.good g1 g2
    have hp := two_pos n
    have hl := pow_le12 (d := n) (by omega)
    have hs := Int.pow_succ (2 : Int) n
    have q5 : a < 2 ^ n := by
      unfold isBr at q3
      simp at q3
      exact q3.1
    have e1 : w64 (2 * a) = 2 * a := by rw [w64, wrap_in] <;> omega
    have e2 : w64 (((n + 1 : Nat) : Int) + 1) = ((n + 2 : Nat) : Int) := by rw [w64, wrap_in] <;> omega
    have hb : ∀ up, Cs gl n_rotor_section_brackets up [secAt b f ring.toNat, .agg [.int .i64 (w64 (2 * a)), .int .i64 (w64 (((n + 1 : Nat) : Int) + 1))]] (.bool (isBr b f ring.toNat (2 * a) (n + 2))) up := fun up => by
      rw [e1, e2]
      exact c_isBr (gl := gl) up b f ring.toNat (ok _ (by omega)) (2 * a) (n + 2) (by omega) (by omega) (by omega) (by show 2 * a ≤ 2 ^ (n + 1); omega)
    have e3 : w64 (2 * a + 1) = 2 * a + 1 := by rw [w64, wrap_in] <;> omega
    rw [show (((n + 1 : Nat) : Int).toNat + 1) = n + 2 by omega]
    conv => whnf
    refine .mk 10 (by kernel_rfl) ?_
    conv => whnf
    split
    rotate_left
    · rename_i h
      have h' : decide (0 ≤ ring) = false := h
      simp at h' <;> omega
    conv => whnf
    split
    rotate_left
    · rename_i h
      have h' : decide (ring < b.nr) = false := h
      simp at h' <;> omega
    conv => whnf
    refine .mk _ _ _ _ _ (leL_refl _) (hb _) rfl ?_
    conv => whnf
    split
    · rename_i h
      have h' : (!(isBr b f ring.toNat (2 * a) (n + 2))) = true := h
      have h'' : isBr b f ring.toNat (2 * a) (n + 2) = false := by simpa using h'
      conv => whnf
      refine .mk _ _ _ _ _ (leL_refl _) (c_next _ _ _) rfl ?_
      conv => whnf
      refine ⟨?_, rfl⟩
      show IV.tup [.agg [.int .i64 (w64 (w64 (2 * a) + 1)), .int .i64 (w64 (((n + 1 : Nat) : Int) + 1))], .int .i64 0] = _
      rw [e1, e2, e3, h'']; rfl
    · rename_i h
      have h' : (!(isBr b f ring.toNat (2 * a) (n + 2))) = false := h
      have h'' : isBr b f ring.toNat (2 * a) (n + 2) = true := by simpa using h'
      conv => whnf
      refine ⟨?_, rfl⟩
      show IV.tup [.agg [.int .i64 (w64 (2 * a)), .int .i64 (w64 (((n + 1 : Nat) : Int) + 1))], .int .i64 0] = _
      rw [e1, e2, h'']; rfl
end Go.Proofs.YtllmejkmogepjaaDoor.Ix
