/-
  Rt4: TopHawseUneven answers true at all arguments.
-/
import Derived.Test.YtllmejkmogepjaaDoorYRt2
import Derived.Test.YtllmejkmogepjaaDoorYRo8
namespace Go.Proofs.YtllmejkmogepjaaDoor.Ix
open Go.Proofs
set_option maxRecDepth 100000
set_option linter.unusedVariables false
set_option maxHeartbeats 4000000
variable {gl : Nat → IV}

theorem okS_good' {b : Bl} {f : Fl} (h : okS b f = true) : Good b f ∧ b.nl ≤ 1000000 ∧ b.nd ≤ 1000000 ∧ b.nr ≤ 1000000 := by
  unfold okS at h
  simp only [Bool.and_eq_true, beq_iff_eq] at h
  have g : Good b f := ⟨h.1.1.2, h.1.2⟩
  have hs := h.1.1.1
  unfold Bl.short at hs
  simp at hs
  refine ⟨g, ?_, ?_, ?_⟩ <;> omega

theorem loadS_zero {a b c : Int} (ha : -1000000 ≤ a ∧ a ≤ 1000000) (hb : -1000000 ≤ b ∧ b ≤ 1000000) (hc : -1000000 ≤ c ∧ c ≤ 1000000) : loadS a b c = 0 := by
  unfold loadS
  simp only [orE_zero, withinS_zero]
  exact ⟨ha, hb, hc⟩
theorem pairS_zero {a b : Int} (ha : -999999999 ≤ a ∧ a ≤ 999999999) (hb : -999999999 ≤ b ∧ b ≤ 999999999) : pairS a b = 0 := by
  unfold pairS
  simp only [orE_zero, withinS_zero]
  exact ⟨ha, hb⟩

theorem splitR_ok {a b c s x y : Int} (ha : -1000000 ≤ a ∧ a ≤ 1000000) (hb : -1000000 ≤ b ∧ b ≤ 1000000) (hc : -1000000 ≤ c ∧ c ≤ 1000000) (hs : a + b + c = s) (hx : a - c = x) (hy : b - c = y) :
    splitR a b c = .tup [.int .i64 s, .agg [.int .i64 x, .int .i64 y], .int .i64 0] := by
  subst hs hx hy
  unfold splitR
  rw [loadS_zero ha hb hc]; rfl

theorem turnR_ok {a b n x y : Int} (ha : -999999999 ≤ a ∧ a ≤ 999999999) (hb : -999999999 ≤ b ∧ b ≤ 999999999) (hn : 0 ≤ n ∧ n ≤ 2) (h : turnP a b n = (x, y)) : turnR a b n = .tup [.agg [.int .i64 x, .int .i64 y], .int .i64 0] := by
  unfold turnR turnErr
  rw [h, pairS_zero ha hb, show withinS n (-999999999) 999999999 = 0 by rw [withinS_zero]; omega]; rfl

theorem normR_ok {a b v : Int} (ha : -999999999 ≤ a ∧ a ≤ 999999999) (hb : -999999999 ≤ b ∧ b ≤ 999999999) (h : a * a - a * b + b * b = v) : normR a b = .tup [.int .i64 v, .int .i64 0] := by
  unfold normR
  rw [h, pairS_zero ha hb]; rfl

theorem mergeR_ok {s a b t p q : Int} (hs : -3000000 ≤ s ∧ s ≤ 3000000) (ha : -999999999 ≤ a ∧ a ≤ 999999999) (hb : -999999999 ≤ b ∧ b ≤ 999999999) (ht : s - a - b = 3 * t) (hp : a + t = p) (hq : b + t = q) (hl : loadS p q t = 0) :
    mergeR s a b = .tup [.agg [.int .i64 p, .int .i64 q, .int .i64 t], .int .i64 0] := by
  subst hp hq
  unfold mergeR mergeE
  simp only
  rw [pairS_zero ha hb, show withinS s (-3000000) 3000000 = 0 by rw [withinS_zero]; exact hs, ht, Int.mul_tmod_right, Int.mul_tdiv_cancel_left _ (by decide), hl]; rfl

theorem rot3_ok {p q r : Int} (hp : -1000000 ≤ p ∧ p ≤ 1000000) (hq : -1000000 ≤ q ∧ q ≤ 1000000) (hr : -1000000 ≤ r ∧ r ≤ 1000000) {x y : Int} (hx : 3 * (p - r) = x) (hy : 3 * (q - r) = y) :
    rotR 3 (fun _ => p) (fun _ => q) (fun _ => r) = .tup [.agg [.int .i64 x, .int .i64 y], .int .i64 0] := by
  subst hx hy
  have h : recE 3 (fun _ => p) (fun _ => q) (fun _ => r) = 0 := by
    unfold recE
    rw [firstS_zero]
    exact fun j _ _ => loadS_zero hp hq hr
  have e1 : sumTo (fun _ => p - r) 3 = 3 * (p - r) := by simp only [sumTo]; omega
  have e2 : sumTo (fun _ => q - r) 3 = 3 * (q - r) := by simp only [sumTo]; omega
  unfold rotR recR
  simp only
  rw [h, e1, e2]; rfl

theorem fix3_ok {p q r : Int} (hp : -1000000 ≤ p ∧ p ≤ 1000000) (hq : -1000000 ≤ q ∧ q ≤ 1000000) (hr : -1000000 ≤ r ∧ r ≤ 1000000) :
    fixR 3 (fun _ => p) (fun _ => q) (fun _ => r) = .tup [.agg [.int .i64 0, .int .i64 0], .int .i64 0] := by
  have h : recE 3 (fun _ => p) (fun _ => q) (fun _ => r) = 0 := by
    unfold recE
    rw [firstS_zero]
    exact fun j _ _ => loadS_zero hp hq hr
  have t0 : turnP (p - r) (q - r) ((0 : Nat) : Int) = (p - r, q - r) := rfl
  have t1 : turnP (p - r) (q - r) ((0 + 1 : Nat) : Int) = (-(q - r), (p - r) - (q - r)) := rfl
  have t2 : turnP (p - r) (q - r) ((0 + 1 + 1 : Nat) : Int) = ((q - r) - (p - r), -(p - r)) := rfl
  have e1 : sumTo (fun i => (turnP (p - r) (q - r) (i : Int)).1) 3 = 0 := by simp only [sumTo]; rw [t0, t1, t2]; simp only; omega
  have e2 : sumTo (fun i => (turnP (p - r) (q - r) (i : Int)).2) 3 = 0 := by simp only [sumTo]; rw [t0, t1, t2]; simp only; omega
  unfold fixR recR
  simp only
  rw [h, e1, e2]; rfl

/-- Three equal loads, one after another. -/
theorem three_le (p q r : Int) : leL [IV.lst none 3 3 (litF 3 [.int .i64 p, .int .i64 q, .int .i64 r, .int .i64 p, .int .i64 q, .int .i64 r, .int .i64 p, .int .i64 q, .int .i64 r])] [loadsI none 3 (fun _ => p) (fun _ => q) (fun _ => r)] := by
  refine ⟨⟨.inl rfl, rfl, rfl, fun i hi => ?_⟩, trivial⟩
  match i, hi with
  | 0, _ => rfl
  | 1, _ => rfl
  | 2, _ => rfl

theorem c_rot3 (up : List Ces) (p q r : Int) : Cs gl n_rotor_Rotating up [IV.lst none 3 3 (litF 3 [.int .i64 p, .int .i64 q, .int .i64 r, .int .i64 p, .int .i64 q, .int .i64 r, .int .i64 p, .int .i64 q, .int .i64 r])] (rotR 3 (fun _ => p) (fun _ => q) (fun _ => r)) up :=
  Comp.le (three_le p q r) (c_Rotating up 3 _ _ _)
theorem c_fix3 (up : List Ces) (hg : gl g_rotor_roots = rootsI) (p q r : Int) : Cs gl n_rotor_Fixed up [IV.lst none 3 3 (litF 3 [.int .i64 p, .int .i64 q, .int .i64 r, .int .i64 p, .int .i64 q, .int .i64 r, .int .i64 p, .int .i64 q, .int .i64 r])] (fixR 3 (fun _ => p) (fun _ => q) (fun _ => r)) up :=
  Comp.le (three_le p q r) (c_Fixed up hg 3 _ _ _)

theorem T_bound {b : Bl} {f : Fl} (g : Good b f) {E : Nat} (hE : E < 12) (h : allBr b f 0) : -16000000000000000 ≤ (b.T f E).1 ∧ (b.T f E).1 ≤ 16000000000000000 := by
  have hn := g.all.2.2.1
  have := sumTo_bound (g := fun i => (b.tor f i (b.at f i E) (E + 1)).1) (B := 1000000000000000) b.nr fun i hi => (tor_bound (g.all.2.2.2 i hi) hE (br_at (br_some_all (h i hi) E))).1
  have e : (b.T f E).1 = sumTo (fun i => (b.tor f i (b.at f i E) (E + 1)).1) b.nr := rfl
  rw [e]; omega

theorem c_TopHawseUneven (up : List Ces) (hg : gl g_rotor_roots = rootsI) (b : Bl) (f : Fl) (x0 x1 x2 : Int) (h0 : 0 ≤ x0 ∧ x0 < 256) (h1 : 0 ≤ x1 ∧ x1 < 256) (h2 : 0 ≤ x2 ∧ x2 < 256) :
    Cs gl n_nacelletop_TopHawseUneven up [b.iv, f.iv, .agg [.int .u8 x0, .int .u8 x1, .int .u8 x2]] (.bool true) up := by
  refine mk h_nacelletop_TopHawseUneven rfl rfl ?_
  conv => whnf
  refine .mk _ _ _ _ _ (leL_refl _) (c_hawseRotor _) rfl ?_
  conv => whnf
  refine .mk _ _ _ _ _ (leL_refl _) (c_hawseLight _ b f) rfl ?_
  conv => whnf
  split
  · conv => whnf
    refine .mk _ _ _ _ _ (leL_refl _) (c_hawseRotor _) rfl ?_
    conv => whnf
    exact ⟨rfl, rfl⟩
  rename_i h
  have h : (!okS b f) = false := h
  obtain ⟨g, q1, q2, q3⟩ := okS_good' (by simpa using h)
  clear h
  obtain ⟨E, hE, ed⟩ : ∃ E : Nat, E < 8 ∧ IntKind.i64.wrap (1 + (IntKind.i64.wrap x0).tmod 8) = ((E + 1 : Nat) : Int) := by
    have e : w64 x0 = x0 := by rw [w64, wrap_in] <;> omega
    refine ⟨(x0 % 8).toNat, by omega, ?_⟩
    show w64 (1 + (w64 x0).tmod 8) = _
    rw [e, Int.tmod_eq_emod_of_nonneg (by omega), w64, wrap_in] <;> omega
  obtain ⟨pt, hpt, ep⟩ : ∃ pt : Int, (-8 ≤ pt ∧ pt ≤ 11) ∧ IntKind.i64.wrap ((IntKind.i64.wrap x1).tmod 20 - 8) = pt := by
    have e : w64 x1 = x1 := by rw [w64, wrap_in] <;> omega
    refine ⟨x1 % 20 - 8, by omega, ?_⟩
    show w64 ((w64 x1).tmod 20 - 8) = _
    rw [e, Int.tmod_eq_emod_of_nonneg (by omega), w64, wrap_in] <;> omega
  obtain ⟨pl, hpl, el⟩ : ∃ pl : Int, (0 ≤ pl ∧ pl ≤ 2) ∧ (IntKind.i64.wrap x2).tmod 3 = pl := by
    have e : IntKind.i64.wrap x2 = x2 := by rw [wrap_in] <;> omega
    rw [e, Int.tmod_eq_emod_of_nonneg (by omega)]
    exact ⟨_, by omega, rfl⟩
  have g' : Good b ⟨f.w, f.s, pt⟩ := by
    refine ⟨g.be, ?_⟩
    have := g.fe
    unfold Fl.err flowS at this ⊢
    simp only [orE_zero, withinS_zero] at this ⊢
    omega
  have hT := fun up => c_Torque (gl := gl) up b f ((E + 1 : Nat) : Int)
  have hU := fun up => c_Torque (gl := gl) up b ⟨f.w, f.s, pt⟩ ((E + 1 : Nat) : Int)
  simp only [torR_ok g (show E < 12 by omega)] at hT
  simp only [torR_ok g' (show E < 12 by omega)] at hU
  conv => whnf
  refine .mk 16 (by kernel_rfl) ?_
  conv => whnf
  rw [ed, ep, el]
  refine .mk 13 (by kernel_rfl) ?_
  conv => whnf
  refine .mk _ _ _ (leL_refl _) (c_hawseBlade _ b q1 q2 q3) rfl ?_
  conv => whnf
  refine .mk _ _ _ (leL_refl _) (c_hawseFlow _ f _) rfl ?_
  conv => whnf
  by_cases a1 : allBr b f 0
  rotate_left
  · simp only [if_neg a1] at hT
    refine .mk _ _ _ (leL_refl _) (hT _) rfl ?_
    conv => whnf
    refine .mk 12 (by kernel_rfl) ?_
    conv => whnf
    refine .mk _ _ _ (leL_refl _) (c_hawseBlade _ b q1 q2 q3) rfl ?_
    conv => whnf
    refine .mk _ _ _ (leL_refl _) (c_hawseFlow _ f _) rfl ?_
    conv => whnf
    by_cases a2 : allBr b ⟨f.w, f.s, pt⟩ 0
    · simp only [if_pos a2] at hU
      refine .mk _ _ _ (leL_refl _) (hU _) rfl ?_
      conv => whnf
      exact ⟨rfl, rfl⟩
    · simp only [if_neg a2] at hU
      refine .mk _ _ _ (leL_refl _) (hU _) rfl ?_
      conv => whnf
      exact ⟨rfl, rfl⟩
  simp only [if_pos a1] at hT
  refine .mk _ _ _ (leL_refl _) (hT _) rfl ?_
  conv => whnf
  refine .mk 12 (by kernel_rfl) ?_
  conv => whnf
  refine .mk _ _ _ (leL_refl _) (c_hawseBlade _ b q1 q2 q3) rfl ?_
  conv => whnf
  refine .mk _ _ _ (leL_refl _) (c_hawseFlow _ f _) rfl ?_
  conv => whnf
  by_cases a2 : allBr b ⟨f.w, f.s, pt⟩ 0
  rotate_left
  · simp only [if_neg a2] at hU
    refine .mk _ _ _ (leL_refl _) (hU _) rfl ?_
    conv => whnf
    exact ⟨rfl, rfl⟩
  simp only [if_pos a2] at hU
  refine .mk _ _ _ (leL_refl _) (hU _) rfl ?_
  conv => whnf
  clear hT hU
  generalize (b.T f E).1 = m
  generalize (b.T ⟨f.w, f.s, pt⟩ E).1 = n
  split
  · conv => whnf
    exact ⟨rfl, rfl⟩
  rename_i k1
  have k1 : decide ((if n > m then n else m) > 1000000) = false := k1
  conv => whnf
  split
  · conv => whnf
    exact ⟨rfl, rfl⟩
  rename_i k2
  have k2 : decide ((if n < m then n else m) < -1000000) = false := k2
  have hm : -1000000 ≤ m ∧ m ≤ 1000000 := by
    simp at k1 k2
    split at k1 <;> split at k2 <;> omega
  have hn : -1000000 ≤ n ∧ n ≤ 1000000 := by
    simp at k1 k2
    split at k1 <;> split at k2 <;> omega
  clear k1 k2
  have ew : w64 (n - m) = n - m := by rw [w64, wrap_in] <;> omega
  have bq := mulA (A := 2000000) (B := 2000000) (x := n - m) (y := n - m) (by omega) (by omega)
  have eq2 : w64 ((n - m) * (n - m)) = (n - m) * (n - m) := by rw [w64, wrap_in] <;> omega
  have hTn : ∀ (pl u v : Int), 0 ≤ pl ∧ pl ≤ 2 → turnP (n - m) 0 pl = (u, v) → ∀ up, Cs gl n_rotor_Turn up [.agg [.int .i64 (w64 (n - m)), .int .i64 0], .int .i64 pl] (.tup [.agg [.int .i64 u, .int .i64 v], .int .i64 0]) up := fun pl u v hpl he up => by
    rw [ew, ← turnR_ok (a := n - m) (b := 0) (by omega) (by omega) hpl he]
    exact c_Turn up hg _ _ _
  have hSp : ∀ (a b c s x y : Int), (-1000000 ≤ a ∧ a ≤ 1000000) → (-1000000 ≤ b ∧ b ≤ 1000000) → (-1000000 ≤ c ∧ c ≤ 1000000) → a + b + c = s → a - c = x → b - c = y → ∀ up, Cs gl n_rotor_Split up [.agg [.int .i64 a, .int .i64 b, .int .i64 c]] (.tup [.int .i64 s, .agg [.int .i64 x, .int .i64 y], .int .i64 0]) up :=
    fun a b c s x y ha hb hc hs hx hy up => by
      rw [← splitR_ok ha hb hc hs hx hy]
      exact c_Split up _ _ _
  have hNo : ∀ (a b : Int), (-2000000 ≤ a ∧ a ≤ 2000000) → (-2000000 ≤ b ∧ b ≤ 2000000) → a * a - a * b + b * b = (n - m) * (n - m) → ∀ up, Cs gl n_rotor_Norm up [.agg [.int .i64 a, .int .i64 b]] (.tup [.int .i64 ((n - m) * (n - m)), .int .i64 0]) up :=
    fun a b ha hb he up => by
      rw [← normR_ok (a := a) (b := b) (by omega) (by omega) he]
      exact c_Norm up _ _
  have hMe : ∀ (s a b t p q : Int), (-3000000 ≤ s ∧ s ≤ 3000000) → (-2000000 ≤ a ∧ a ≤ 2000000) → (-2000000 ≤ b ∧ b ≤ 2000000) → s - a - b = 3 * t → a + t = p → b + t = q → (-1000000 ≤ p ∧ p ≤ 1000000) → (-1000000 ≤ q ∧ q ≤ 1000000) → (-1000000 ≤ t ∧ t ≤ 1000000) → ∀ up, Cs gl n_rotor_Merge up [.int .i64 s, .agg [.int .i64 a, .int .i64 b]] (.tup [.agg [.int .i64 p, .int .i64 q, .int .i64 t], .int .i64 0]) up :=
    fun s a b t p q hs ha hb ht hp hq k1 k2 k3 up => by
      rw [← mergeR_ok hs (by omega) (by omega) ht hp hq (loadS_zero k1 k2 k3)]
      exact c_Merge up _ _ _
  have hRo : ∀ (p q r x y : Int), (-1000000 ≤ p ∧ p ≤ 1000000) → (-1000000 ≤ q ∧ q ≤ 1000000) → (-1000000 ≤ r ∧ r ≤ 1000000) → 3 * (p - r) = x → 3 * (q - r) = y → ∀ up, Cs gl n_rotor_Rotating up [IV.lst none 3 3 (litF 3 [.int .i64 p, .int .i64 q, .int .i64 r, .int .i64 p, .int .i64 q, .int .i64 r, .int .i64 p, .int .i64 q, .int .i64 r])] (.tup [.agg [.int .i64 x, .int .i64 y], .int .i64 0]) up :=
    fun p q r x y hp hq hr hx hy up => by
      rw [← rot3_ok hp hq hr hx hy]
      exact c_rot3 up _ _ _
  have hFi : ∀ (p q r : Int), (-1000000 ≤ p ∧ p ≤ 1000000) → (-1000000 ≤ q ∧ q ≤ 1000000) → (-1000000 ≤ r ∧ r ≤ 1000000) → ∀ up, Cs gl n_rotor_Fixed up [IV.lst none 3 3 (litF 3 [.int .i64 p, .int .i64 q, .int .i64 r, .int .i64 p, .int .i64 q, .int .i64 r, .int .i64 p, .int .i64 q, .int .i64 r])] (.tup [.agg [.int .i64 0, .int .i64 0], .int .i64 0]) up :=
    fun p q r hp hq hr up => by
      rw [← fix3_ok hp hq hr]
      exact c_fix3 up hg _ _ _
  obtain ⟨p, q, r, u, v, hlay, hp, hq, hr, hu, hv, ht, hno, hub, hvb⟩ : ∃ p q r u v : Int, lay [IV.int .i64 m, .int .i64 m, .int .i64 m] pl.toNat [.int .i64 n] = some [.int .i64 p, .int .i64 q, .int .i64 r] ∧ (-1000000 ≤ p ∧ p ≤ 1000000) ∧ (-1000000 ≤ q ∧ q ≤ 1000000) ∧ (-1000000 ≤ r ∧ r ≤ 1000000) ∧
      p - r = u ∧ q - r = v ∧ turnP (n - m) 0 pl = (u, v) ∧ u * u - u * v + v * v = (n - m) * (n - m) ∧ (-2000000 ≤ u ∧ u ≤ 2000000) ∧ (-2000000 ≤ v ∧ v ≤ 2000000) := by
    have h3 : pl = 0 ∨ pl = 1 ∨ pl = 2 := by omega
    rcases h3 with rfl | rfl | rfl
    · exact ⟨n, m, m, n - m, 0, rfl, hn, hm, hm, rfl, by omega, rfl, by grind, by omega, by omega⟩
    · refine ⟨m, n, m, 0, n - m, rfl, hm, hn, hm, by omega, rfl, ?_, by grind, by omega, by omega⟩
      show (-0, n - m - 0) = _
      simp
    · refine ⟨m, m, n, m - n, m - n, rfl, hm, hm, hn, rfl, rfl, ?_, by grind, by omega, by omega⟩
      show (0 - (n - m), -(n - m)) = _
      refine Prod.mk.injEq .. ▸ ⟨by omega, by omega⟩
  conv => whnf
  split
  rotate_left
  · rename_i h
    have h' : decide (0 ≤ pl) = false := h
    simp at h' <;> omega
  conv => whnf
  split
  rotate_left
  · rename_i h
    have h' : decide (pl < 3) = false := h
    simp at h' <;> omega
  conv => whnf
  have eoff : 0 + pl.toNat * 1 = pl.toNat := by omega
  rw [← eoff] at hlay
  split
  rotate_left
  · rename_i h
    have h : lay [IV.int .i64 m, .int .i64 m, .int .i64 m] (0 + pl.toNat * 1) [.int .i64 n] = none := h
    rw [hlay] at h
    cases h
  rename_i c0 h
  have h : lay [IV.int .i64 m, .int .i64 m, .int .i64 m] (0 + pl.toNat * 1) [.int .i64 n] = some c0 := h
  obtain rfl := Option.some.inj (hlay.symm.trans h)
  clear h
  conv => whnf
  refine .mk _ _ _ _ _ (leL_refl _) (hSp m m m (m + m + m) 0 0 hm hm hm rfl (by omega) (by omega) _) rfl ?_
  conv => whnf
  refine .mk _ _ _ _ _ (leL_refl _) (hSp p q r (p + q + r) u v hp hq hr rfl hu hv _) rfl ?_
  conv => whnf
  refine .mk _ _ _ _ _ (leL_refl _) (hTn pl u v hpl ht _) rfl ?_
  conv => whnf
  refine .mk _ _ _ _ _ (leL_refl _) (hNo u v hub hvb hno _) rfl ?_
  conv => whnf
  refine .mk _ _ _ _ _ (leL_refl _) (hMe (p + q + r) u v r p q (by omega) hub hvb (by omega) (by omega) (by omega) hp hq hr _) rfl ?_
  conv => whnf
  split
  · rename_i h
    have h : (!(u == u && (v == v && true))) = true := h
    simp at h
  conv => whnf
  split
  · rename_i h
    have h : ((n - m) * (n - m) != w64 (w64 (n - m) * w64 (n - m))) = true := h
    rw [ew, eq2] at h
    simp at h
  conv => whnf
  split
  · rename_i h
    have h : (!(p == p && (q == q && (r == r && true)))) = true := h
    simp at h
  conv => whnf
  refine .mk _ _ _ _ _ (leL_refl _) (hRo p q r (3 * u) (3 * v) hp hq hr (by rw [hu]) (by rw [hv]) _) rfl ?_
  conv => whnf
  refine .mk _ _ _ _ _ (leL_refl _) (hFi p q r hp hq hr _) rfl ?_
  conv => whnf
  have w1 : w64 (3 * u) = 3 * u := by rw [w64, wrap_in] <;> omega
  have w2 : w64 (3 * v) = 3 * v := by rw [w64, wrap_in] <;> omega
  split
  rotate_left
  · rename_i h
    have h : (3 * u == w64 (3 * u) && (3 * v == w64 (3 * v) && true)) = false := h
    rw [w1, w2] at h
    simp at h
  conv => whnf
  exact ⟨rfl, rfl⟩
end Go.Proofs.YtllmejkmogepjaaDoor.Ix
