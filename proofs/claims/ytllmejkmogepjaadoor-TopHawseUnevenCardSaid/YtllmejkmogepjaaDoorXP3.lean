/-
  P3: the errors of polars, rings, blades, flows, told once for the program and for its reference; and what a valid blade has.
-/
import Derived.Test.YtllmejkmogepjaaDoorXP2
namespace Go.Proofs.YtllmejkmogepjaaDoor.Ix

def orE (a b : Int) : Int := bif a != 0 then a else b

theorem orE_zero {a b : Int} : orE a b = 0 ↔ a = 0 ∧ b = 0 := by
  unfold orE
  by_cases h : a = 0
  · simp [h]
  · have : (a != 0) = true := by simpa using h
    simp [this, h]
theorem orE_right (a : Int) : orE a 0 = a := by
  unfold orE
  by_cases h : a = 0
  · simp [h]
  · have : (a != 0) = true := by simpa using h
    simp [this]
theorem orE_assoc (a b c : Int) : orE (orE a b) c = orE a (orE b c) := by
  unfold orE
  by_cases h : a = 0
  · simp [h]
  · have : (a != 0) = true := by simpa using h
    simp [this]

theorem firstS_zero (f : Nat → Int) : ∀ (n i : Nat), firstS f n i = 0 ↔ ∀ j, i ≤ j → j < i + n → f j = 0
  | 0, i => by simp [firstS]; intro j h1 h2; omega
  | n + 1, i => by
    have ih := firstS_zero f n (i + 1)
    show orE (f i) (firstS f n (i + 1)) = 0 ↔ _
    rw [orE_zero, ih]
    constructor
    · rintro ⟨h1, h2⟩ j g1 g2
      by_cases e : j = i
      · rw [e]; exact h1
      · exact h2 j (by omega) (by omega)
    · intro h
      exact ⟨h i (by omega) (by omega), fun j g1 g2 => h j (by omega) (by omega)⟩

theorem firstS_congr {f g : Nat → Int} : ∀ (n i : Nat), (∀ j, i ≤ j → j < i + n → f j = g j) → firstS f n i = firstS g n i
  | 0, _, _ => rfl
  | n + 1, i, h => by
    simp only [firstS]
    rw [h i (by omega) (by omega), firstS_congr n (i + 1) (fun j h1 h2 => h j (by omega) (by omega))]

theorem firstS_step (f : Nat → Int) (n i : Nat) : firstS f (n + 1) i = orE (f i) (firstS f n (i + 1)) := rfl

theorem withinS_zero {n lo hi : Int} : withinS n lo hi = 0 ↔ lo ≤ n ∧ n ≤ hi := by
  unfold withinS
  by_cases h1 : n < lo
  · simp [h1]; (try omega)
  · by_cases h2 : n > hi
    · simp [h2]; (try omega)
    · simp [h1, h2]; (try omega)

theorem bif_zero {b : Bool} {e : Int} (he : e ≠ 0) : (bif b then e else 0) = 0 ↔ b = false := by
  cases b <;> simp [he]

def polarS (nl : Nat) (lf : Nat → Int) (nd : Nat) (df : Nat → Int) : Int :=
  orE (bif (nl : Int) == 0 then 12 else 0) (orE (bif decide ((nl : Int) > 32) then 5 else 0) (orE (bif (nd : Int) != nl then 2 else 0)
    (orE (firstS (fun i => orE (withinS (lf i) 0 1000) (bif decide (lf i < lf (i - 1)) then 11 else 0)) nl 0) (firstS (fun i => withinS (df i) 0 1000) nd 0))))
def ringS (r c t tip : Int) : Int := orE (withinS r 1 200) (orE (withinS c 1 100) (orE (withinS t (-64) 64) (withinS tip 0 256)))
def ringAt (r1 r2 r3 r4 : Nat → Int) (i : Nat) : Int := orE (ringS (r1 i) (r2 i) (r3 i) (r4 i)) (bif decide (0 < i) && decide (r1 i ≤ r1 (i - 1)) then 11 else 0)
def bladeS (nl : Nat) (lf : Nat → Int) (nd : Nat) (df : Nat → Int) (nr : Nat) (r1 r2 r3 r4 : Nat → Int) : Int :=
  orE (polarS nl lf nd df) (orE (bif (nr : Int) == 0 then 12 else 0) (orE (bif decide ((nr : Int) > 16) then 5 else 0) (firstS (ringAt r1 r2 r3 r4) nr 0)))
def flowS (w s p : Int) : Int := orE (withinS w 1 50) (orE (withinS s 1 1000) (withinS p (-64) 64))

variable {nl nd nr : Nat} {lf df r1 r2 r3 r4 : Nat → Int} {w s p : Int}

theorem bladeS_ok (hb : bladeS nl lf nd df nr r1 r2 r3 r4 = 0) (hf : flowS w s p = 0) :
    nd = nl ∧ 1 ≤ nr ∧ nr ≤ 16 ∧ ∀ i, i < nr → SecOK nl lf df (r1 i) (r2 i) (r3 i) (r4 i) w s p := by
  simp only [bladeS, polarS, flowS, orE_zero, firstS_zero, withinS_zero, ringAt, ringS] at hb hf
  obtain ⟨⟨h1, h2, h3, h4, h5⟩, h6, h7, h8⟩ := hb
  rw [bif_zero (by decide)] at h1 h2 h3 h6 h7
  simp at h1 h2 h3 h6 h7
  refine ⟨by omega, by omega, by omega, fun i hi => ?_⟩
  have h3' : nd = nl := by omega
  have h9 := h8 i (by omega) (by omega)
  refine ⟨by omega, by omega, fun j hj => (h4 j (by omega) (by omega)).1, fun j hj => ?_, fun j hj => h5 j (by omega) (by omega), h9.1.1, h9.1.2.1, h9.1.2.2.1, h9.1.2.2.2, hf.1, hf.2.1, hf.2.2⟩
  have := (h4 j (by omega) (by omega)).2
  rw [bif_zero (by decide)] at this
  simp at this; omega

end Go.Proofs.YtllmejkmogepjaaDoor.Ix
