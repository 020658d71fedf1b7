/-
  Kt5: ControlMonotone: the law (another blade).
-/
import Derived.Test.YtkdlegfakefjgaaDoorM9
namespace Go.Proofs.YtkdlegfakefjgaaDoor.Ix
open Go.Proofs
set_option maxRecDepth 100000
set_option linter.unusedVariables false
set_option linter.unusedSimpArgs false
variable {gl : Nat → IV}
/-- What is read behind each call. -/
def lvMono2 : List (Nat × List Nat) := [(36, [3, 4, 5, 6, 7, 8, 9, 10, 11, 36]), (47, [3, 4, 5, 6, 7, 8, 9, 10, 11, 44, 47]), (55, [3, 4, 5, 6, 7, 8, 9, 10, 11, 55]), (66, [3, 4, 6, 7, 8, 9, 10, 11, 66]), (68, [3, 4, 6, 7, 8, 9, 10, 11, 66, 68]), (70, [3, 4, 6, 7, 8, 9, 10, 11, 70]), (76, [3, 4, 6, 7, 8, 9, 10, 11, 76]), (78, [3, 4, 6, 7, 8, 9, 10, 11, 76, 78]), (79, [3, 4, 6, 7, 8, 9, 10, 11, 79]), (85, [3, 4, 6, 7, 8, 9, 10, 11, 12, 14, 85]), (87, [3, 4, 6, 7, 8, 9, 10, 11, 12, 14, 85, 87]), (88, [3, 4, 6, 7, 8, 9, 10, 11, 12, 14, 88]), (115, [3, 4, 6, 7, 8, 9, 10, 15, 112, 113, 115]), (139, [3, 4, 6, 7, 9, 10, 15, 17, 18, 19, 139]), (141, [3, 4, 6, 7, 9, 10, 15, 17, 18, 19, 139, 141]), (143, [3, 4, 6, 7, 9, 10, 15, 17, 18, 19, 143]), (149, [3, 4, 6, 7, 9, 10, 15, 17, 18, 19, 20, 22, 149]), (151, [3, 4, 6, 7, 9, 10, 15, 17, 18, 19, 20, 22, 149, 151]), (153, [3, 4, 6, 7, 9, 10, 15, 17, 18, 19, 20, 22, 153]), (160, [3, 4, 6, 7, 9, 10, 15, 17, 18, 20, 22, 23, 25, 158, 160]), (162, [3, 4, 6, 7, 9, 10, 15, 17, 18, 20, 22, 23, 25, 162]), (168, [3, 4, 6, 7, 9, 10, 15, 17, 18, 20, 22, 23, 25, 26, 28, 168]), (170, [3, 4, 6, 7, 9, 10, 15, 18, 20, 22, 23, 25, 26, 28, 168, 170]), (171, [3, 4, 6, 7, 9, 10, 15, 18, 20, 22, 23, 25, 26, 28, 171]), (176, [3, 4, 6, 7, 9, 10, 15, 18, 20, 22, 23, 25, 26, 28, 29, 30, 176]), (178, [3, 4, 6, 7, 9, 10, 15, 20, 22, 23, 25, 26, 28, 29, 30, 176, 178]), (179, [3, 4, 6, 7, 9, 10, 15, 20, 22, 23, 25, 26, 28, 29, 30, 179]), (220, [3, 4, 6, 7, 9, 10, 220]), (222, [3, 4, 6, 7, 9, 10, 220, 222]), (224, [3, 4, 6, 7, 9, 10, 224]), (252, [4, 6, 7, 33, 244, 250, 252]), (254, [6, 7, 33, 244, 250, 252, 254]), (257, [6, 244, 250, 257]), (262, [6, 261, 262])]

set_option maxHeartbeats 32000000 in
theorem mono_200 (up : List Ces) (hk : gl g_control_kinds = kindsI) (hg : gl g_internal_strconv_uint64pow10 = powI) (m : Mc) (s : Sta) (x y : Int) (hs : m.smallB = true) (ql : decide ((s.mode.size : Int) > 40) = false) (he : s.err m = 0) (qi : eqS s.mode sIdle = false)
    (st : Int) (hst : Int.tmod (IntKind.i64.wrap x) 3 = st) (h1 : 0 ≤ st) (h2 : st ≤ 2) (hkk : Int.tmod (IntKind.i64.wrap y) 3 = 2) (hsafe : s.safeN m = false) (hp : decide (s.pk m st > m.lim) = true) :
    Cs gl n_nacellelaw05_ControlMonotone up [m.iv, s.iv, .agg [.int .u8 x, .int .u8 y]] (.bool true) up := by
  obtain ⟨hm, hfe, hli, hra⟩ := small_ok hs (Mc.err_of (Sta.err_rng he).1)
  obtain ⟨_, hr, hl, hstk, htor, hkn, hft⟩ := Sta.err_rng he
  have g0 := hm.wind
  have g1 := hm.fea
  have g2 := hm.lim
  have g3 := hr.speed
  have g4 := hr.p0
  have g5 := hr.p1
  have g6 := hr.p2
  have e1 : w64 (s.speed - 1) = s.speed - 1 := by rw [w64, wrap_in] <;> omega
  have e2 : w64 (s.p2 + 1) = s.p2 + 1 := by rw [w64, wrap_in] <;> omega
  have e3 : w64 (m.wind - 1) = m.wind - 1 := by rw [w64, wrap_in] <;> omega
  have heS : (Sta.mk s.mode (maxW 0 (w64 (s.speed - 1))) s.p0 s.p1 s.p2 s.tor s.stuck).err m = 0 := err_other he qi rfl rfl rfl (by show 0 ≤ maxW 0 _ ∧ maxW 0 _ ≤ _; rw [e1, maxW_eq]; omega) g4 g5 g6
  have hmin : 0 ≤ minW m.fea (w64 (s.p2 + 1)) ∧ minW m.fea (w64 (s.p2 + 1)) ≤ m.fea ∧ s.p2 ≤ minW m.fea (w64 (s.p2 + 1)) := by
    rw [e2]; unfold minW; split <;> omega
  have heN : (Sta.mk s.mode s.speed s.p0 s.p1 (minW m.fea (w64 (s.p2 + 1))) s.tor s.stuck).err m = 0 := err_other he qi rfl rfl rfl ⟨g3.1, hl⟩ g4 g5 ⟨hmin.1, hmin.2.1⟩
  have hc : (Mc.mk (maxW 1 (w64 (m.wind - 1))) m.fea m.rate m.tor m.lim m.rated m.gain).ok := ⟨by show 1 ≤ maxW 1 _ ∧ maxW 1 _ ≤ 100; rw [e3, maxW_eq]; omega, hm.fea, hm.rate, hm.tor, hm.lim, hm.rated, hm.gain, by
    have := hm.two
    show maxW 1 _ < 2 * m.fea
    rw [e3, maxW_eq]; omega⟩
  have heC : s.err (Mc.mk (maxW 1 (w64 (m.wind - 1))) m.fea m.rate m.tor m.lim m.rated m.gain) = 0 := err_machine he hc rfl rfl rfl
  have hsp : s.speed ≤ 10000 := by omega
  have leS : (Sta.mk s.mode (maxW 0 (w64 (s.speed - 1))) s.p0 s.p1 s.p2 s.tor s.stuck).le s := ⟨by show maxW 0 _ ≤ _; rw [e1, maxW_eq]; omega, Int.le_refl _, Int.le_refl _, Int.le_refl _⟩
  have leN : (Sta.mk s.mode s.speed s.p0 s.p1 (minW m.fea (w64 (s.p2 + 1))) s.tor s.stuck).le s := ⟨Int.le_refl _, Int.le_refl _, Int.le_refl _, hmin.2.2⟩
  have k1 : -1 ≤ st := by omega
  obtain ⟨_, hrS, hlS, _⟩ := Sta.err_rng heS
  obtain ⟨_, hrN, hlN, _⟩ := Sta.err_rng heN
  obtain ⟨_, hrC, hlC, _⟩ := Sta.err_rng heC
  have b0 := pk_ge (m := m) (s := s) (k := st)
  have b1 := pk_le hm hm rfl rfl (Int.le_refl _) (s := s) (t := s) (k := -1) (k' := st) (by omega) (by omega) k1 h2 (.inr rfl) hr hr hsp hsp s.le_refl
  have b2 := pk_le hm hm rfl rfl (Int.le_refl _) (k := st) (k' := st) k1 h2 k1 h2 (.inl rfl) hrS hr (by omega) hsp leS
  have b3 := pk_le hm hm rfl rfl (Int.le_refl _) (k := st) (k' := st) k1 h2 k1 h2 (.inl rfl) hrN hr (by omega) hsp leN
  have b4 := pk_le hc hm rfl rfl (by show maxW 1 _ ≤ m.wind; rw [e3, maxW_eq]; omega) (s := s) (t := s) (k := st) (k' := st) k1 h2 k1 h2 (.inl rfl) hrC hr hsp hsp s.le_refl
  have hS := fun up => c_rSmall (gl := gl) up m
  rw [hs] at hS
  have hE := fun up => c_rState (gl := gl) up m s
  rw [he] at hE
  have hA := fun up => c_awake (gl := gl) up hk hg
  have P0 := fun up => c_PeakOk (gl := gl) up s m st he k1 h2
  have P1 := fun up => c_PeakOk (gl := gl) up s m (-1) he (by omega) (by omega)
  have P2 := fun up => c_PeakOk (gl := gl) up _ m st heS k1 h2
  have P3 := fun up => c_PeakOk (gl := gl) up _ m st heN k1 h2
  have P4 := fun up => c_PeakOk (gl := gl) up s _ st heC k1 h2
  have F0 := fun up => c_SafeOk (gl := gl) up s m he
  have F1 := fun up => c_SafeOk (gl := gl) up _ m heS
  have F2 := fun up => c_SafeOk (gl := gl) up _ m heN
  have C1 := fun up => c_state (gl := gl) up (Sta.mk s.mode (maxW 0 (w64 (s.speed - 1))) s.p0 s.p1 s.p2 s.tor s.stuck)
  have C2 := fun up => c_state (gl := gl) up (Sta.mk s.mode s.speed s.p0 s.p1 (minW m.fea (w64 (s.p2 + 1))) s.tor s.stuck)
  have T0 := fun up => c_StopOk (gl := gl) up s m st he k1 h2
  rw [hsafe] at F0
  rw [hp] at T0
  have q1 : decide (s.pk m st < s.speed) = false := decide_eq_false (by omega)
  have q2 : decide (s.pk m (-1) > s.pk m st) = false := decide_eq_false (by omega)
  obtain ⟨n, hn⟩ : ∃ n, n = s.num m st := ⟨_, rfl⟩
  have hn2 := num_small hm hfe hli hr hl k1 h2
  rw [← hn] at P0 T0 hn2
  have q4 : decide ((Sta.mk s.mode (maxW 0 (w64 (s.speed - 1))) s.p0 s.p1 s.p2 s.tor s.stuck).pk m st > s.pk m st) = false := decide_eq_false (by omega)
  have q5 : decide ((Sta.mk s.mode s.speed s.p0 s.p1 (minW m.fea (w64 (s.p2 + 1))) s.tor s.stuck).pk m st > s.pk m st) = false := decide_eq_false (by omega)
  have q6 : decide (s.pk (Mc.mk (maxW 1 (w64 (m.wind - 1))) m.fea m.rate m.tor m.lim m.rated m.gain) st > s.pk m st) = false := decide_eq_false (by omega)
  have q7 : (!(false == decide (s.pk m st ≤ m.lim))) = false := by
    have := of_decide_eq_true hp
    rw [show decide (s.pk m st ≤ m.lim) = false from decide_eq_false (by omega)]; rfl
  simp only [cond_true, cond_false] at T0
  clear b0 b1 b2 b3 b4 hrS hlS hrN hlN hrC hlC leS leN heS heN heC e1 e2 e3 g0 g1 g2 g3 g4 g5 g6 hr hl hstk htor hkn hft hfe hli hra hn hsafe hp he hsp
  refine mk h_nacellelaw05_ControlMonotone rfl rfl ?_
  conv => whnf
  repeat first
    | (refine DRAW.seek ?_; repeat (first | refine TRYD.take ?_ | refine TRYD.next ?_); conv => whnf)
    | (refine HOLD.mk (by first | exact trivial | exact ⟨⟨rfl, rfl⟩, trivial⟩ | exact ⟨⟨rfl, rfl⟩, ⟨rfl, rfl⟩, trivial⟩) ?_; (conv => whnf))
    | (refine CALL0.cutBy lvMono2 _ _ _ _ _ (leL_refl _) (hS ..) rfl ?_; conv => whnf)
    | (refine CALL0.by (hS ..) rfl ?_; conv => whnf)
    | (refine CALLQ.mk _ _ _ (leL_refl _) (hS ..) rfl ?_; conv => whnf)
  split
  · rename_i h
    exact Bool.noConfusion ((ql).symm.trans h)
  rename_i hN
  clear hN
  conv => whnf
  repeat first
    | (refine DRAW.seek ?_; repeat (first | refine TRYD.take ?_ | refine TRYD.next ?_); conv => whnf)
    | (refine HOLD.mk (by first | exact trivial | exact ⟨⟨rfl, rfl⟩, trivial⟩ | exact ⟨⟨rfl, rfl⟩, ⟨rfl, rfl⟩, trivial⟩) ?_; (conv => whnf))
    | (refine CALL0.cutBy lvMono2 _ _ _ _ _ (leL_refl _) (hE ..) rfl ?_; conv => whnf)
    | (refine CALL0.by (hE ..) rfl ?_; conv => whnf)
    | (refine CALLQ.mk _ _ _ (leL_refl _) (hE ..) rfl ?_; conv => whnf)
  split
  · rename_i h
    exact Bool.noConfusion ((qi).symm.trans h)
  rename_i hN
  clear hN
  conv => whnf
  refine DRAW.seek ?_
  repeat (first | refine TRYD.take ?_ | refine TRYD.next ?_)
  conv => whnf
  simp only [hst, hkk]
  repeat first
    | (refine DRAW.seek ?_; repeat (first | refine TRYD.take ?_ | refine TRYD.next ?_); conv => whnf)
    | (refine HOLD.mk (by first | exact trivial | exact ⟨⟨rfl, rfl⟩, trivial⟩ | exact ⟨⟨rfl, rfl⟩, ⟨rfl, rfl⟩, trivial⟩) ?_; (conv => whnf))
    | (refine CALL0.cutBy lvMono2 _ _ _ _ _ (leL_refl _) (c_machine ..) rfl ?_; conv => whnf)
    | (refine CALL0.by (c_machine ..) rfl ?_; conv => whnf)
    | (refine CALLQ.mk _ _ _ (leL_refl _) (c_machine ..) rfl ?_; conv => whnf)
    | (refine CALL0.cutBy lvMono2 _ _ _ _ _ (leL_refl _) (c_state ..) rfl ?_; conv => whnf)
    | (refine CALL0.by (c_state ..) rfl ?_; conv => whnf)
    | (refine CALLQ.mk _ _ _ (leL_refl _) (c_state ..) rfl ?_; conv => whnf)
    | (refine CALL0.cutBy lvMono2 _ _ _ _ _ (leL_refl _) (P0 ..) rfl ?_; conv => whnf)
    | (refine CALL0.by (P0 ..) rfl ?_; conv => whnf)
    | (refine CALLQ.mk _ _ _ (leL_refl _) (P0 ..) rfl ?_; conv => whnf)
    | (refine CALL0.cutBy lvMono2 _ _ _ _ _ (leL_refl _) (P1 ..) rfl ?_; conv => whnf)
    | (refine CALL0.by (P1 ..) rfl ?_; conv => whnf)
    | (refine CALLQ.mk _ _ _ (leL_refl _) (P1 ..) rfl ?_; conv => whnf)
    | (refine CALL0.cutBy lvMono2 _ _ _ _ _ (leL_refl _) (F0 ..) rfl ?_; conv => whnf)
    | (refine CALL0.by (F0 ..) rfl ?_; conv => whnf)
    | (refine CALLQ.mk _ _ _ (leL_refl _) (F0 ..) rfl ?_; conv => whnf)
  split
  · rename_i h
    exact Bool.noConfusion ((q1).symm.trans h)
  rename_i hN
  clear hN
  conv => whnf
  split
  · rename_i h
    exact Bool.noConfusion ((q2).symm.trans h)
  rename_i hN
  clear hN
  conv => whnf
  repeat first
    | (refine DRAW.seek ?_; repeat (first | refine TRYD.take ?_ | refine TRYD.next ?_); conv => whnf)
    | (refine HOLD.mk (by first | exact trivial | exact ⟨⟨rfl, rfl⟩, trivial⟩ | exact ⟨⟨rfl, rfl⟩, ⟨rfl, rfl⟩, trivial⟩) ?_; (conv => whnf))
    | (refine CALL0.cutBy lvMono2 _ _ _ _ _ (leL_refl _) (c_machine ..) rfl ?_; conv => whnf)
    | (refine CALL0.by (c_machine ..) rfl ?_; conv => whnf)
    | (refine CALLQ.mk _ _ _ (leL_refl _) (c_machine ..) rfl ?_; conv => whnf)
  repeat first
    | (refine DRAW.seek ?_; repeat (first | refine TRYD.take ?_ | refine TRYD.next ?_); conv => whnf)
    | (refine HOLD.mk (by first | exact trivial | exact ⟨⟨rfl, rfl⟩, trivial⟩ | exact ⟨⟨rfl, rfl⟩, ⟨rfl, rfl⟩, trivial⟩) ?_; (conv => whnf))
    | (refine CALL0.cutBy lvMono2 _ _ _ _ _ (leL_refl _) (C1 ..) rfl ?_; conv => whnf)
    | (refine CALL0.by (C1 ..) rfl ?_; conv => whnf)
    | (refine CALLQ.mk _ _ _ (leL_refl _) (C1 ..) rfl ?_; conv => whnf)
    | (refine CALL0.cutBy lvMono2 _ _ _ _ _ (leL_refl _) (C2 ..) rfl ?_; conv => whnf)
    | (refine CALL0.by (C2 ..) rfl ?_; conv => whnf)
    | (refine CALLQ.mk _ _ _ (leL_refl _) (C2 ..) rfl ?_; conv => whnf)
    | (refine CALL0.cutBy lvMono2 _ _ _ _ _ (leL_refl _) (c_state ..) rfl ?_; conv => whnf)
    | (refine CALL0.by (c_state ..) rfl ?_; conv => whnf)
    | (refine CALLQ.mk _ _ _ (leL_refl _) (c_state ..) rfl ?_; conv => whnf)
    | (refine CALL0.cutBy lvMono2 _ _ _ _ _ (leL_refl _) (P2 ..) rfl ?_; conv => whnf)
    | (refine CALL0.by (P2 ..) rfl ?_; conv => whnf)
    | (refine CALLQ.mk _ _ _ (leL_refl _) (P2 ..) rfl ?_; conv => whnf)
    | (refine CALL0.cutBy lvMono2 _ _ _ _ _ (leL_refl _) (P3 ..) rfl ?_; conv => whnf)
    | (refine CALL0.by (P3 ..) rfl ?_; conv => whnf)
    | (refine CALLQ.mk _ _ _ (leL_refl _) (P3 ..) rfl ?_; conv => whnf)
    | (refine CALL0.cutBy lvMono2 _ _ _ _ _ (leL_refl _) (P4 ..) rfl ?_; conv => whnf)
    | (refine CALL0.by (P4 ..) rfl ?_; conv => whnf)
    | (refine CALLQ.mk _ _ _ (leL_refl _) (P4 ..) rfl ?_; conv => whnf)
    | (refine CALL0.cutBy lvMono2 _ _ _ _ _ (leL_refl _) (F1 ..) rfl ?_; conv => whnf)
    | (refine CALL0.by (F1 ..) rfl ?_; conv => whnf)
    | (refine CALLQ.mk _ _ _ (leL_refl _) (F1 ..) rfl ?_; conv => whnf)
    | (refine CALL0.cutBy lvMono2 _ _ _ _ _ (leL_refl _) (F2 ..) rfl ?_; conv => whnf)
    | (refine CALL0.by (F2 ..) rfl ?_; conv => whnf)
    | (refine CALLQ.mk _ _ _ (leL_refl _) (F2 ..) rfl ?_; conv => whnf)
    | (refine CALL0.cutBy lvMono2 _ _ _ _ _ (leL_refl _) (c_machine ..) rfl ?_; conv => whnf)
    | (refine CALL0.by (c_machine ..) rfl ?_; conv => whnf)
    | (refine CALLQ.mk _ _ _ (leL_refl _) (c_machine ..) rfl ?_; conv => whnf)
  split
  · rename_i h
    exact Bool.noConfusion ((q4).symm.trans h)
  rename_i hN
  clear hN
  conv => whnf
  split
  · rename_i h
    exact Bool.noConfusion ((q5).symm.trans h)
  rename_i hN
  clear hN
  conv => whnf
  split
  · rename_i h
    exact Bool.noConfusion ((q6).symm.trans h)
  rename_i hN
  clear hN
  conv => whnf
  repeat first
    | (refine DRAW.seek ?_; repeat (first | refine TRYD.take ?_ | refine TRYD.next ?_); conv => whnf)
    | (refine HOLD.mk (by first | exact trivial | exact ⟨⟨rfl, rfl⟩, trivial⟩ | exact ⟨⟨rfl, rfl⟩, ⟨rfl, rfl⟩, trivial⟩) ?_; (conv => whnf))
    | (refine CALL0.cutBy lvMono2 _ _ _ _ _ (leL_refl _) (c_machine ..) rfl ?_; conv => whnf)
    | (refine CALL0.by (c_machine ..) rfl ?_; conv => whnf)
    | (refine CALLQ.mk _ _ _ (leL_refl _) (c_machine ..) rfl ?_; conv => whnf)
    | (refine CALL0.cutBy lvMono2 _ _ _ _ _ (leL_refl _) (c_state ..) rfl ?_; conv => whnf)
    | (refine CALL0.by (c_state ..) rfl ?_; conv => whnf)
    | (refine CALLQ.mk _ _ _ (leL_refl _) (c_state ..) rfl ?_; conv => whnf)
    | (refine CALL0.cutBy lvMono2 _ _ _ _ _ (leL_refl _) (T0 ..) rfl ?_; conv => whnf)
    | (refine CALL0.by (T0 ..) rfl ?_; conv => whnf)
    | (refine CALLQ.mk _ _ _ (leL_refl _) (T0 ..) rfl ?_; conv => whnf)
  split
  · rename_i h
    exact Bool.noConfusion ((q7).symm.trans h)
  rename_i hN
  clear hN
  conv => whnf
  repeat first
    | (refine DRAW.seek ?_; repeat (first | refine TRYD.take ?_ | refine TRYD.next ?_); conv => whnf)
    | (refine HOLD.mk (by first | exact trivial | exact ⟨⟨rfl, rfl⟩, trivial⟩ | exact ⟨⟨rfl, rfl⟩, ⟨rfl, rfl⟩, trivial⟩) ?_; (conv => whnf))
    | (refine CALL0.cutBy lvMono2 _ _ _ _ _ (leL_refl _) (hA ..) rfl ?_; conv => whnf)
    | (refine CALL0.by (hA ..) rfl ?_; conv => whnf)
    | (refine CALLQ.mk _ _ _ (leL_refl _) (hA ..) rfl ?_; conv => whnf)
  exact ⟨rfl, rfl⟩

set_option maxHeartbeats 32000000 in
theorem mono_201 (up : List Ces) (hk : gl g_control_kinds = kindsI) (hg : gl g_internal_strconv_uint64pow10 = powI) (m : Mc) (s : Sta) (x y : Int) (hs : m.smallB = true) (ql : decide ((s.mode.size : Int) > 40) = false) (he : s.err m = 0) (qi : eqS s.mode sIdle = false)
    (st : Int) (hst : Int.tmod (IntKind.i64.wrap x) 3 = st) (h1 : 0 ≤ st) (h2 : st ≤ 2) (hkk : Int.tmod (IntKind.i64.wrap y) 3 = 2) (hsafe : s.safeN m = false) (hp : decide (s.pk m st > m.lim) = false) :
    Cs gl n_nacellelaw05_ControlMonotone up [m.iv, s.iv, .agg [.int .u8 x, .int .u8 y]] (.bool true) up := by
  obtain ⟨hm, hfe, hli, hra⟩ := small_ok hs (Mc.err_of (Sta.err_rng he).1)
  obtain ⟨_, hr, hl, hstk, htor, hkn, hft⟩ := Sta.err_rng he
  have g0 := hm.wind
  have g1 := hm.fea
  have g2 := hm.lim
  have g3 := hr.speed
  have g4 := hr.p0
  have g5 := hr.p1
  have g6 := hr.p2
  have e1 : w64 (s.speed - 1) = s.speed - 1 := by rw [w64, wrap_in] <;> omega
  have e2 : w64 (s.p2 + 1) = s.p2 + 1 := by rw [w64, wrap_in] <;> omega
  have e3 : w64 (m.wind - 1) = m.wind - 1 := by rw [w64, wrap_in] <;> omega
  have heS : (Sta.mk s.mode (maxW 0 (w64 (s.speed - 1))) s.p0 s.p1 s.p2 s.tor s.stuck).err m = 0 := err_other he qi rfl rfl rfl (by show 0 ≤ maxW 0 _ ∧ maxW 0 _ ≤ _; rw [e1, maxW_eq]; omega) g4 g5 g6
  have hmin : 0 ≤ minW m.fea (w64 (s.p2 + 1)) ∧ minW m.fea (w64 (s.p2 + 1)) ≤ m.fea ∧ s.p2 ≤ minW m.fea (w64 (s.p2 + 1)) := by
    rw [e2]; unfold minW; split <;> omega
  have heN : (Sta.mk s.mode s.speed s.p0 s.p1 (minW m.fea (w64 (s.p2 + 1))) s.tor s.stuck).err m = 0 := err_other he qi rfl rfl rfl ⟨g3.1, hl⟩ g4 g5 ⟨hmin.1, hmin.2.1⟩
  have hc : (Mc.mk (maxW 1 (w64 (m.wind - 1))) m.fea m.rate m.tor m.lim m.rated m.gain).ok := ⟨by show 1 ≤ maxW 1 _ ∧ maxW 1 _ ≤ 100; rw [e3, maxW_eq]; omega, hm.fea, hm.rate, hm.tor, hm.lim, hm.rated, hm.gain, by
    have := hm.two
    show maxW 1 _ < 2 * m.fea
    rw [e3, maxW_eq]; omega⟩
  have heC : s.err (Mc.mk (maxW 1 (w64 (m.wind - 1))) m.fea m.rate m.tor m.lim m.rated m.gain) = 0 := err_machine he hc rfl rfl rfl
  have hsp : s.speed ≤ 10000 := by omega
  have leS : (Sta.mk s.mode (maxW 0 (w64 (s.speed - 1))) s.p0 s.p1 s.p2 s.tor s.stuck).le s := ⟨by show maxW 0 _ ≤ _; rw [e1, maxW_eq]; omega, Int.le_refl _, Int.le_refl _, Int.le_refl _⟩
  have leN : (Sta.mk s.mode s.speed s.p0 s.p1 (minW m.fea (w64 (s.p2 + 1))) s.tor s.stuck).le s := ⟨Int.le_refl _, Int.le_refl _, Int.le_refl _, hmin.2.2⟩
  have k1 : -1 ≤ st := by omega
  obtain ⟨_, hrS, hlS, _⟩ := Sta.err_rng heS
  obtain ⟨_, hrN, hlN, _⟩ := Sta.err_rng heN
  obtain ⟨_, hrC, hlC, _⟩ := Sta.err_rng heC
  have b0 := pk_ge (m := m) (s := s) (k := st)
  have b1 := pk_le hm hm rfl rfl (Int.le_refl _) (s := s) (t := s) (k := -1) (k' := st) (by omega) (by omega) k1 h2 (.inr rfl) hr hr hsp hsp s.le_refl
  have b2 := pk_le hm hm rfl rfl (Int.le_refl _) (k := st) (k' := st) k1 h2 k1 h2 (.inl rfl) hrS hr (by omega) hsp leS
  have b3 := pk_le hm hm rfl rfl (Int.le_refl _) (k := st) (k' := st) k1 h2 k1 h2 (.inl rfl) hrN hr (by omega) hsp leN
  have b4 := pk_le hc hm rfl rfl (by show maxW 1 _ ≤ m.wind; rw [e3, maxW_eq]; omega) (s := s) (t := s) (k := st) (k' := st) k1 h2 k1 h2 (.inl rfl) hrC hr hsp hsp s.le_refl
  have hS := fun up => c_rSmall (gl := gl) up m
  rw [hs] at hS
  have hE := fun up => c_rState (gl := gl) up m s
  rw [he] at hE
  have hA := fun up => c_awake (gl := gl) up hk hg
  have P0 := fun up => c_PeakOk (gl := gl) up s m st he k1 h2
  have P1 := fun up => c_PeakOk (gl := gl) up s m (-1) he (by omega) (by omega)
  have P2 := fun up => c_PeakOk (gl := gl) up _ m st heS k1 h2
  have P3 := fun up => c_PeakOk (gl := gl) up _ m st heN k1 h2
  have P4 := fun up => c_PeakOk (gl := gl) up s _ st heC k1 h2
  have F0 := fun up => c_SafeOk (gl := gl) up s m he
  have F1 := fun up => c_SafeOk (gl := gl) up _ m heS
  have F2 := fun up => c_SafeOk (gl := gl) up _ m heN
  have C1 := fun up => c_state (gl := gl) up (Sta.mk s.mode (maxW 0 (w64 (s.speed - 1))) s.p0 s.p1 s.p2 s.tor s.stuck)
  have C2 := fun up => c_state (gl := gl) up (Sta.mk s.mode s.speed s.p0 s.p1 (minW m.fea (w64 (s.p2 + 1))) s.tor s.stuck)
  have T0 := fun up => c_StopOk (gl := gl) up s m st he k1 h2
  rw [hsafe] at F0
  rw [hp] at T0
  have q1 : decide (s.pk m st < s.speed) = false := decide_eq_false (by omega)
  have q2 : decide (s.pk m (-1) > s.pk m st) = false := decide_eq_false (by omega)
  obtain ⟨n, hn⟩ : ∃ n, n = s.num m st := ⟨_, rfl⟩
  have hn2 := num_small hm hfe hli hr hl k1 h2
  rw [← hn] at P0 T0 hn2
  have q4 : decide ((Sta.mk s.mode (maxW 0 (w64 (s.speed - 1))) s.p0 s.p1 s.p2 s.tor s.stuck).pk m st > s.pk m st) = false := decide_eq_false (by omega)
  have q5 : decide ((Sta.mk s.mode s.speed s.p0 s.p1 (minW m.fea (w64 (s.p2 + 1))) s.tor s.stuck).pk m st > s.pk m st) = false := decide_eq_false (by omega)
  have q6 : decide (s.pk (Mc.mk (maxW 1 (w64 (m.wind - 1))) m.fea m.rate m.tor m.lim m.rated m.gain) st > s.pk m st) = false := decide_eq_false (by omega)
  have q7 : (!(true == decide (s.pk m st ≤ m.lim))) = false := by
    have := of_decide_eq_false hp
    rw [show decide (s.pk m st ≤ m.lim) = true from decide_eq_true (by omega)]; rfl
  have q8 : (((1 + n : Nat) : Int) == w64 ((n : Int) + 1)) = true := by
    rw [w64, wrap_in (by omega) (by omega)]
    have : ((1 + n : Nat) : Int) = (n : Int) + 1 := by omega
    simpa using this
  have hCS := fun up => c_CheckStop (gl := gl) up s m st (1 + n) (by omega) (s.stopS m st)
  have eCS : csErr s m st (1 + n) (s.stopS m st) = 0 := by
    rw [cs_err]
    have e0 : s.err0 m st = 0 := by
      unfold Sta.err0
      rw [he, withinS_zero.2 ⟨k1, h2⟩]; rfl
    rw [e0, show ∀ x, orE 0 x = x from fun x => orE_no rfl]
    unfold rcsErr
    rw [show decide (((1 + n : Nat) : Int) > 4096) = false from decide_eq_false (by omega), hp, ← hn, sameSt_refl]; rfl
  rw [eCS] at hCS
  simp only [cond_true, cond_false] at T0
  clear b0 b1 b2 b3 b4 hrS hlS hrN hlN hrC hlC leS leN heS heN heC e1 e2 e3 g0 g1 g2 g3 g4 g5 g6 hr hl hstk htor hkn hft hfe hli hra hn hsafe hp he hsp
  refine mk h_nacellelaw05_ControlMonotone rfl rfl ?_
  conv => whnf
  repeat first
    | (refine DRAW.seek ?_; repeat (first | refine TRYD.take ?_ | refine TRYD.next ?_); conv => whnf)
    | (refine HOLD.mk (by first | exact trivial | exact ⟨⟨rfl, rfl⟩, trivial⟩ | exact ⟨⟨rfl, rfl⟩, ⟨rfl, rfl⟩, trivial⟩) ?_; (conv => whnf))
    | (refine CALL0.cutBy lvMono2 _ _ _ _ _ (leL_refl _) (hS ..) rfl ?_; conv => whnf)
    | (refine CALL0.by (hS ..) rfl ?_; conv => whnf)
    | (refine CALLQ.mk _ _ _ (leL_refl _) (hS ..) rfl ?_; conv => whnf)
  split
  · rename_i h
    exact Bool.noConfusion ((ql).symm.trans h)
  rename_i hN
  clear hN
  conv => whnf
  repeat first
    | (refine DRAW.seek ?_; repeat (first | refine TRYD.take ?_ | refine TRYD.next ?_); conv => whnf)
    | (refine HOLD.mk (by first | exact trivial | exact ⟨⟨rfl, rfl⟩, trivial⟩ | exact ⟨⟨rfl, rfl⟩, ⟨rfl, rfl⟩, trivial⟩) ?_; (conv => whnf))
    | (refine CALL0.cutBy lvMono2 _ _ _ _ _ (leL_refl _) (hE ..) rfl ?_; conv => whnf)
    | (refine CALL0.by (hE ..) rfl ?_; conv => whnf)
    | (refine CALLQ.mk _ _ _ (leL_refl _) (hE ..) rfl ?_; conv => whnf)
  split
  · rename_i h
    exact Bool.noConfusion ((qi).symm.trans h)
  rename_i hN
  clear hN
  conv => whnf
  refine DRAW.seek ?_
  repeat (first | refine TRYD.take ?_ | refine TRYD.next ?_)
  conv => whnf
  simp only [hst, hkk]
  repeat first
    | (refine DRAW.seek ?_; repeat (first | refine TRYD.take ?_ | refine TRYD.next ?_); conv => whnf)
    | (refine HOLD.mk (by first | exact trivial | exact ⟨⟨rfl, rfl⟩, trivial⟩ | exact ⟨⟨rfl, rfl⟩, ⟨rfl, rfl⟩, trivial⟩) ?_; (conv => whnf))
    | (refine CALL0.cutBy lvMono2 _ _ _ _ _ (leL_refl _) (c_machine ..) rfl ?_; conv => whnf)
    | (refine CALL0.by (c_machine ..) rfl ?_; conv => whnf)
    | (refine CALLQ.mk _ _ _ (leL_refl _) (c_machine ..) rfl ?_; conv => whnf)
    | (refine CALL0.cutBy lvMono2 _ _ _ _ _ (leL_refl _) (c_state ..) rfl ?_; conv => whnf)
    | (refine CALL0.by (c_state ..) rfl ?_; conv => whnf)
    | (refine CALLQ.mk _ _ _ (leL_refl _) (c_state ..) rfl ?_; conv => whnf)
    | (refine CALL0.cutBy lvMono2 _ _ _ _ _ (leL_refl _) (P0 ..) rfl ?_; conv => whnf)
    | (refine CALL0.by (P0 ..) rfl ?_; conv => whnf)
    | (refine CALLQ.mk _ _ _ (leL_refl _) (P0 ..) rfl ?_; conv => whnf)
    | (refine CALL0.cutBy lvMono2 _ _ _ _ _ (leL_refl _) (P1 ..) rfl ?_; conv => whnf)
    | (refine CALL0.by (P1 ..) rfl ?_; conv => whnf)
    | (refine CALLQ.mk _ _ _ (leL_refl _) (P1 ..) rfl ?_; conv => whnf)
    | (refine CALL0.cutBy lvMono2 _ _ _ _ _ (leL_refl _) (F0 ..) rfl ?_; conv => whnf)
    | (refine CALL0.by (F0 ..) rfl ?_; conv => whnf)
    | (refine CALLQ.mk _ _ _ (leL_refl _) (F0 ..) rfl ?_; conv => whnf)
  split
  · rename_i h
    exact Bool.noConfusion ((q1).symm.trans h)
  rename_i hN
  clear hN
  conv => whnf
  split
  · rename_i h
    exact Bool.noConfusion ((q2).symm.trans h)
  rename_i hN
  clear hN
  conv => whnf
  repeat first
    | (refine DRAW.seek ?_; repeat (first | refine TRYD.take ?_ | refine TRYD.next ?_); conv => whnf)
    | (refine HOLD.mk (by first | exact trivial | exact ⟨⟨rfl, rfl⟩, trivial⟩ | exact ⟨⟨rfl, rfl⟩, ⟨rfl, rfl⟩, trivial⟩) ?_; (conv => whnf))
    | (refine CALL0.cutBy lvMono2 _ _ _ _ _ (leL_refl _) (c_machine ..) rfl ?_; conv => whnf)
    | (refine CALL0.by (c_machine ..) rfl ?_; conv => whnf)
    | (refine CALLQ.mk _ _ _ (leL_refl _) (c_machine ..) rfl ?_; conv => whnf)
  repeat first
    | (refine DRAW.seek ?_; repeat (first | refine TRYD.take ?_ | refine TRYD.next ?_); conv => whnf)
    | (refine HOLD.mk (by first | exact trivial | exact ⟨⟨rfl, rfl⟩, trivial⟩ | exact ⟨⟨rfl, rfl⟩, ⟨rfl, rfl⟩, trivial⟩) ?_; (conv => whnf))
    | (refine CALL0.cutBy lvMono2 _ _ _ _ _ (leL_refl _) (C1 ..) rfl ?_; conv => whnf)
    | (refine CALL0.by (C1 ..) rfl ?_; conv => whnf)
    | (refine CALLQ.mk _ _ _ (leL_refl _) (C1 ..) rfl ?_; conv => whnf)
    | (refine CALL0.cutBy lvMono2 _ _ _ _ _ (leL_refl _) (C2 ..) rfl ?_; conv => whnf)
    | (refine CALL0.by (C2 ..) rfl ?_; conv => whnf)
    | (refine CALLQ.mk _ _ _ (leL_refl _) (C2 ..) rfl ?_; conv => whnf)
    | (refine CALL0.cutBy lvMono2 _ _ _ _ _ (leL_refl _) (c_state ..) rfl ?_; conv => whnf)
    | (refine CALL0.by (c_state ..) rfl ?_; conv => whnf)
    | (refine CALLQ.mk _ _ _ (leL_refl _) (c_state ..) rfl ?_; conv => whnf)
    | (refine CALL0.cutBy lvMono2 _ _ _ _ _ (leL_refl _) (P2 ..) rfl ?_; conv => whnf)
    | (refine CALL0.by (P2 ..) rfl ?_; conv => whnf)
    | (refine CALLQ.mk _ _ _ (leL_refl _) (P2 ..) rfl ?_; conv => whnf)
    | (refine CALL0.cutBy lvMono2 _ _ _ _ _ (leL_refl _) (P3 ..) rfl ?_; conv => whnf)
    | (refine CALL0.by (P3 ..) rfl ?_; conv => whnf)
    | (refine CALLQ.mk _ _ _ (leL_refl _) (P3 ..) rfl ?_; conv => whnf)
    | (refine CALL0.cutBy lvMono2 _ _ _ _ _ (leL_refl _) (P4 ..) rfl ?_; conv => whnf)
    | (refine CALL0.by (P4 ..) rfl ?_; conv => whnf)
    | (refine CALLQ.mk _ _ _ (leL_refl _) (P4 ..) rfl ?_; conv => whnf)
    | (refine CALL0.cutBy lvMono2 _ _ _ _ _ (leL_refl _) (F1 ..) rfl ?_; conv => whnf)
    | (refine CALL0.by (F1 ..) rfl ?_; conv => whnf)
    | (refine CALLQ.mk _ _ _ (leL_refl _) (F1 ..) rfl ?_; conv => whnf)
    | (refine CALL0.cutBy lvMono2 _ _ _ _ _ (leL_refl _) (F2 ..) rfl ?_; conv => whnf)
    | (refine CALL0.by (F2 ..) rfl ?_; conv => whnf)
    | (refine CALLQ.mk _ _ _ (leL_refl _) (F2 ..) rfl ?_; conv => whnf)
    | (refine CALL0.cutBy lvMono2 _ _ _ _ _ (leL_refl _) (c_machine ..) rfl ?_; conv => whnf)
    | (refine CALL0.by (c_machine ..) rfl ?_; conv => whnf)
    | (refine CALLQ.mk _ _ _ (leL_refl _) (c_machine ..) rfl ?_; conv => whnf)
  split
  · rename_i h
    exact Bool.noConfusion ((q4).symm.trans h)
  rename_i hN
  clear hN
  conv => whnf
  split
  · rename_i h
    exact Bool.noConfusion ((q5).symm.trans h)
  rename_i hN
  clear hN
  conv => whnf
  split
  · rename_i h
    exact Bool.noConfusion ((q6).symm.trans h)
  rename_i hN
  clear hN
  conv => whnf
  repeat first
    | (refine DRAW.seek ?_; repeat (first | refine TRYD.take ?_ | refine TRYD.next ?_); conv => whnf)
    | (refine HOLD.mk (by first | exact trivial | exact ⟨⟨rfl, rfl⟩, trivial⟩ | exact ⟨⟨rfl, rfl⟩, ⟨rfl, rfl⟩, trivial⟩) ?_; (conv => whnf))
    | (refine CALL0.cutBy lvMono2 _ _ _ _ _ (leL_refl _) (c_machine ..) rfl ?_; conv => whnf)
    | (refine CALL0.by (c_machine ..) rfl ?_; conv => whnf)
    | (refine CALLQ.mk _ _ _ (leL_refl _) (c_machine ..) rfl ?_; conv => whnf)
    | (refine CALL0.cutBy lvMono2 _ _ _ _ _ (leL_refl _) (c_state ..) rfl ?_; conv => whnf)
    | (refine CALL0.by (c_state ..) rfl ?_; conv => whnf)
    | (refine CALLQ.mk _ _ _ (leL_refl _) (c_state ..) rfl ?_; conv => whnf)
    | (refine CALL0.cutBy lvMono2 _ _ _ _ _ (leL_refl _) (T0 ..) rfl ?_; conv => whnf)
    | (refine CALL0.by (T0 ..) rfl ?_; conv => whnf)
    | (refine CALLQ.mk _ _ _ (leL_refl _) (T0 ..) rfl ?_; conv => whnf)
  split
  · rename_i h
    exact Bool.noConfusion ((q7).symm.trans h)
  rename_i hN
  clear hN
  conv => whnf
  refine DRAW.seek ?_
  repeat (first | refine TRYD.take ?_ | refine TRYD.next ?_)
  conv => whnf
  rw [show (((1 + n : Nat) : Int) == IntKind.i64.wrap ((n : Int) + 1)) = true from q8]
  conv => whnf
  repeat first
    | (refine DRAW.seek ?_; repeat (first | refine TRYD.take ?_ | refine TRYD.next ?_); conv => whnf)
    | (refine HOLD.mk (by first | exact trivial | exact ⟨⟨rfl, rfl⟩, trivial⟩ | exact ⟨⟨rfl, rfl⟩, ⟨rfl, rfl⟩, trivial⟩) ?_; (conv => whnf))
    | (refine CALL0.cutBy lvMono2 _ _ _ _ _ (leL_refl _) (c_machine ..) rfl ?_; conv => whnf)
    | (refine CALL0.by (c_machine ..) rfl ?_; conv => whnf)
    | (refine CALLQ.mk _ _ _ (leL_refl _) (c_machine ..) rfl ?_; conv => whnf)
    | (refine CALL0.cutBy lvMono2 _ _ _ _ _ (leL_refl _) (c_state ..) rfl ?_; conv => whnf)
    | (refine CALL0.by (c_state ..) rfl ?_; conv => whnf)
    | (refine CALLQ.mk _ _ _ (leL_refl _) (c_state ..) rfl ?_; conv => whnf)
    | (refine CALL0.cutBy lvMono2 _ _ _ _ _ (leL_refl _) (hCS ..) rfl ?_; conv => whnf)
    | (refine CALL0.by (hCS ..) rfl ?_; conv => whnf)
    | (refine CALLQ.mk _ _ _ (leL_refl _) (hCS ..) rfl ?_; conv => whnf)
    | (refine CALL0.cutBy lvMono2 _ _ _ _ _ (leL_refl _) (hA ..) rfl ?_; conv => whnf)
    | (refine CALL0.by (hA ..) rfl ?_; conv => whnf)
    | (refine CALLQ.mk _ _ _ (leL_refl _) (hA ..) rfl ?_; conv => whnf)
  exact ⟨rfl, rfl⟩

set_option maxHeartbeats 32000000 in
theorem mono_210 (up : List Ces) (hk : gl g_control_kinds = kindsI) (hg : gl g_internal_strconv_uint64pow10 = powI) (m : Mc) (s : Sta) (x y : Int) (hs : m.smallB = true) (ql : decide ((s.mode.size : Int) > 40) = false) (he : s.err m = 0) (qi : eqS s.mode sIdle = false)
    (st : Int) (hst : Int.tmod (IntKind.i64.wrap x) 3 = st) (h1 : 0 ≤ st) (h2 : st ≤ 2) (hkk : Int.tmod (IntKind.i64.wrap y) 3 = 2) (hsafe : s.safeN m = true) (hp : decide (s.pk m st > m.lim) = true) :
    Cs gl n_nacellelaw05_ControlMonotone up [m.iv, s.iv, .agg [.int .u8 x, .int .u8 y]] (.bool true) up := by
  obtain ⟨hm, hfe, hli, hra⟩ := small_ok hs (Mc.err_of (Sta.err_rng he).1)
  obtain ⟨_, hr, hl, hstk, htor, hkn, hft⟩ := Sta.err_rng he
  have g0 := hm.wind
  have g1 := hm.fea
  have g2 := hm.lim
  have g3 := hr.speed
  have g4 := hr.p0
  have g5 := hr.p1
  have g6 := hr.p2
  have e1 : w64 (s.speed - 1) = s.speed - 1 := by rw [w64, wrap_in] <;> omega
  have e2 : w64 (s.p2 + 1) = s.p2 + 1 := by rw [w64, wrap_in] <;> omega
  have e3 : w64 (m.wind - 1) = m.wind - 1 := by rw [w64, wrap_in] <;> omega
  have heS : (Sta.mk s.mode (maxW 0 (w64 (s.speed - 1))) s.p0 s.p1 s.p2 s.tor s.stuck).err m = 0 := err_other he qi rfl rfl rfl (by show 0 ≤ maxW 0 _ ∧ maxW 0 _ ≤ _; rw [e1, maxW_eq]; omega) g4 g5 g6
  have hmin : 0 ≤ minW m.fea (w64 (s.p2 + 1)) ∧ minW m.fea (w64 (s.p2 + 1)) ≤ m.fea ∧ s.p2 ≤ minW m.fea (w64 (s.p2 + 1)) := by
    rw [e2]; unfold minW; split <;> omega
  have heN : (Sta.mk s.mode s.speed s.p0 s.p1 (minW m.fea (w64 (s.p2 + 1))) s.tor s.stuck).err m = 0 := err_other he qi rfl rfl rfl ⟨g3.1, hl⟩ g4 g5 ⟨hmin.1, hmin.2.1⟩
  have hc : (Mc.mk (maxW 1 (w64 (m.wind - 1))) m.fea m.rate m.tor m.lim m.rated m.gain).ok := ⟨by show 1 ≤ maxW 1 _ ∧ maxW 1 _ ≤ 100; rw [e3, maxW_eq]; omega, hm.fea, hm.rate, hm.tor, hm.lim, hm.rated, hm.gain, by
    have := hm.two
    show maxW 1 _ < 2 * m.fea
    rw [e3, maxW_eq]; omega⟩
  have heC : s.err (Mc.mk (maxW 1 (w64 (m.wind - 1))) m.fea m.rate m.tor m.lim m.rated m.gain) = 0 := err_machine he hc rfl rfl rfl
  have hsp : s.speed ≤ 10000 := by omega
  have leS : (Sta.mk s.mode (maxW 0 (w64 (s.speed - 1))) s.p0 s.p1 s.p2 s.tor s.stuck).le s := ⟨by show maxW 0 _ ≤ _; rw [e1, maxW_eq]; omega, Int.le_refl _, Int.le_refl _, Int.le_refl _⟩
  have leN : (Sta.mk s.mode s.speed s.p0 s.p1 (minW m.fea (w64 (s.p2 + 1))) s.tor s.stuck).le s := ⟨Int.le_refl _, Int.le_refl _, Int.le_refl _, hmin.2.2⟩
  have k1 : -1 ≤ st := by omega
  obtain ⟨_, hrS, hlS, _⟩ := Sta.err_rng heS
  obtain ⟨_, hrN, hlN, _⟩ := Sta.err_rng heN
  obtain ⟨_, hrC, hlC, _⟩ := Sta.err_rng heC
  have b0 := pk_ge (m := m) (s := s) (k := st)
  have b1 := pk_le hm hm rfl rfl (Int.le_refl _) (s := s) (t := s) (k := -1) (k' := st) (by omega) (by omega) k1 h2 (.inr rfl) hr hr hsp hsp s.le_refl
  have b2 := pk_le hm hm rfl rfl (Int.le_refl _) (k := st) (k' := st) k1 h2 k1 h2 (.inl rfl) hrS hr (by omega) hsp leS
  have b3 := pk_le hm hm rfl rfl (Int.le_refl _) (k := st) (k' := st) k1 h2 k1 h2 (.inl rfl) hrN hr (by omega) hsp leN
  have b4 := pk_le hc hm rfl rfl (by show maxW 1 _ ≤ m.wind; rw [e3, maxW_eq]; omega) (s := s) (t := s) (k := st) (k' := st) k1 h2 k1 h2 (.inl rfl) hrC hr hsp hsp s.le_refl
  have hS := fun up => c_rSmall (gl := gl) up m
  rw [hs] at hS
  have hE := fun up => c_rState (gl := gl) up m s
  rw [he] at hE
  have hA := fun up => c_awake (gl := gl) up hk hg
  have P0 := fun up => c_PeakOk (gl := gl) up s m st he k1 h2
  have P1 := fun up => c_PeakOk (gl := gl) up s m (-1) he (by omega) (by omega)
  have P2 := fun up => c_PeakOk (gl := gl) up _ m st heS k1 h2
  have P3 := fun up => c_PeakOk (gl := gl) up _ m st heN k1 h2
  have P4 := fun up => c_PeakOk (gl := gl) up s _ st heC k1 h2
  have F0 := fun up => c_SafeOk (gl := gl) up s m he
  have F1 := fun up => c_SafeOk (gl := gl) up _ m heS
  have F2 := fun up => c_SafeOk (gl := gl) up _ m heN
  have C1 := fun up => c_state (gl := gl) up (Sta.mk s.mode (maxW 0 (w64 (s.speed - 1))) s.p0 s.p1 s.p2 s.tor s.stuck)
  have C2 := fun up => c_state (gl := gl) up (Sta.mk s.mode s.speed s.p0 s.p1 (minW m.fea (w64 (s.p2 + 1))) s.tor s.stuck)
  have T0 := fun up => c_StopOk (gl := gl) up s m st he k1 h2
  rw [hsafe] at F0
  rw [hp] at T0
  have s1 := safe_mono hm hrS hr (by omega) hsp leS rfl hsafe
  have s2 := safe_mono hm hrN hr (by omega) hsp leN rfl hsafe
  rw [s1] at F1
  rw [s2] at F2
  have q1 : decide (s.pk m st < s.speed) = false := decide_eq_false (by omega)
  have q2 : decide (s.pk m (-1) > s.pk m st) = false := decide_eq_false (by omega)
  obtain ⟨n, hn⟩ : ∃ n, n = s.num m st := ⟨_, rfl⟩
  have hn2 := num_small hm hfe hli hr hl k1 h2
  rw [← hn] at P0 T0 hn2
  have q4 : decide ((Sta.mk s.mode (maxW 0 (w64 (s.speed - 1))) s.p0 s.p1 s.p2 s.tor s.stuck).pk m st > s.pk m st) = false := decide_eq_false (by omega)
  have q5 : decide ((Sta.mk s.mode s.speed s.p0 s.p1 (minW m.fea (w64 (s.p2 + 1))) s.tor s.stuck).pk m st > s.pk m st) = false := decide_eq_false (by omega)
  have q6 : decide (s.pk (Mc.mk (maxW 1 (w64 (m.wind - 1))) m.fea m.rate m.tor m.lim m.rated m.gain) st > s.pk m st) = false := decide_eq_false (by omega)
  have q7 : (!(false == decide (s.pk m st ≤ m.lim))) = false := by
    have := of_decide_eq_true hp
    rw [show decide (s.pk m st ≤ m.lim) = false from decide_eq_false (by omega)]; rfl
  simp only [cond_true, cond_false] at T0
  clear b0 b1 b2 b3 b4 hrS hlS hrN hlN hrC hlC leS leN heS heN heC e1 e2 e3 g0 g1 g2 g3 g4 g5 g6 hr hl hstk htor hkn hft hfe hli hra hn hsafe hp he hsp
  refine mk h_nacellelaw05_ControlMonotone rfl rfl ?_
  conv => whnf
  repeat first
    | (refine DRAW.seek ?_; repeat (first | refine TRYD.take ?_ | refine TRYD.next ?_); conv => whnf)
    | (refine HOLD.mk (by first | exact trivial | exact ⟨⟨rfl, rfl⟩, trivial⟩ | exact ⟨⟨rfl, rfl⟩, ⟨rfl, rfl⟩, trivial⟩) ?_; (conv => whnf))
    | (refine CALL0.cutBy lvMono2 _ _ _ _ _ (leL_refl _) (hS ..) rfl ?_; conv => whnf)
    | (refine CALL0.by (hS ..) rfl ?_; conv => whnf)
    | (refine CALLQ.mk _ _ _ (leL_refl _) (hS ..) rfl ?_; conv => whnf)
  split
  · rename_i h
    exact Bool.noConfusion ((ql).symm.trans h)
  rename_i hN
  clear hN
  conv => whnf
  repeat first
    | (refine DRAW.seek ?_; repeat (first | refine TRYD.take ?_ | refine TRYD.next ?_); conv => whnf)
    | (refine HOLD.mk (by first | exact trivial | exact ⟨⟨rfl, rfl⟩, trivial⟩ | exact ⟨⟨rfl, rfl⟩, ⟨rfl, rfl⟩, trivial⟩) ?_; (conv => whnf))
    | (refine CALL0.cutBy lvMono2 _ _ _ _ _ (leL_refl _) (hE ..) rfl ?_; conv => whnf)
    | (refine CALL0.by (hE ..) rfl ?_; conv => whnf)
    | (refine CALLQ.mk _ _ _ (leL_refl _) (hE ..) rfl ?_; conv => whnf)
  split
  · rename_i h
    exact Bool.noConfusion ((qi).symm.trans h)
  rename_i hN
  clear hN
  conv => whnf
  refine DRAW.seek ?_
  repeat (first | refine TRYD.take ?_ | refine TRYD.next ?_)
  conv => whnf
  simp only [hst, hkk]
  repeat first
    | (refine DRAW.seek ?_; repeat (first | refine TRYD.take ?_ | refine TRYD.next ?_); conv => whnf)
    | (refine HOLD.mk (by first | exact trivial | exact ⟨⟨rfl, rfl⟩, trivial⟩ | exact ⟨⟨rfl, rfl⟩, ⟨rfl, rfl⟩, trivial⟩) ?_; (conv => whnf))
    | (refine CALL0.cutBy lvMono2 _ _ _ _ _ (leL_refl _) (c_machine ..) rfl ?_; conv => whnf)
    | (refine CALL0.by (c_machine ..) rfl ?_; conv => whnf)
    | (refine CALLQ.mk _ _ _ (leL_refl _) (c_machine ..) rfl ?_; conv => whnf)
    | (refine CALL0.cutBy lvMono2 _ _ _ _ _ (leL_refl _) (c_state ..) rfl ?_; conv => whnf)
    | (refine CALL0.by (c_state ..) rfl ?_; conv => whnf)
    | (refine CALLQ.mk _ _ _ (leL_refl _) (c_state ..) rfl ?_; conv => whnf)
    | (refine CALL0.cutBy lvMono2 _ _ _ _ _ (leL_refl _) (P0 ..) rfl ?_; conv => whnf)
    | (refine CALL0.by (P0 ..) rfl ?_; conv => whnf)
    | (refine CALLQ.mk _ _ _ (leL_refl _) (P0 ..) rfl ?_; conv => whnf)
    | (refine CALL0.cutBy lvMono2 _ _ _ _ _ (leL_refl _) (P1 ..) rfl ?_; conv => whnf)
    | (refine CALL0.by (P1 ..) rfl ?_; conv => whnf)
    | (refine CALLQ.mk _ _ _ (leL_refl _) (P1 ..) rfl ?_; conv => whnf)
    | (refine CALL0.cutBy lvMono2 _ _ _ _ _ (leL_refl _) (F0 ..) rfl ?_; conv => whnf)
    | (refine CALL0.by (F0 ..) rfl ?_; conv => whnf)
    | (refine CALLQ.mk _ _ _ (leL_refl _) (F0 ..) rfl ?_; conv => whnf)
  split
  · rename_i h
    exact Bool.noConfusion ((q1).symm.trans h)
  rename_i hN
  clear hN
  conv => whnf
  split
  · rename_i h
    exact Bool.noConfusion ((q2).symm.trans h)
  rename_i hN
  clear hN
  conv => whnf
  repeat first
    | (refine DRAW.seek ?_; repeat (first | refine TRYD.take ?_ | refine TRYD.next ?_); conv => whnf)
    | (refine HOLD.mk (by first | exact trivial | exact ⟨⟨rfl, rfl⟩, trivial⟩ | exact ⟨⟨rfl, rfl⟩, ⟨rfl, rfl⟩, trivial⟩) ?_; (conv => whnf))
    | (refine CALL0.cutBy lvMono2 _ _ _ _ _ (leL_refl _) (c_machine ..) rfl ?_; conv => whnf)
    | (refine CALL0.by (c_machine ..) rfl ?_; conv => whnf)
    | (refine CALLQ.mk _ _ _ (leL_refl _) (c_machine ..) rfl ?_; conv => whnf)
  repeat first
    | (refine DRAW.seek ?_; repeat (first | refine TRYD.take ?_ | refine TRYD.next ?_); conv => whnf)
    | (refine HOLD.mk (by first | exact trivial | exact ⟨⟨rfl, rfl⟩, trivial⟩ | exact ⟨⟨rfl, rfl⟩, ⟨rfl, rfl⟩, trivial⟩) ?_; (conv => whnf))
    | (refine CALL0.cutBy lvMono2 _ _ _ _ _ (leL_refl _) (C1 ..) rfl ?_; conv => whnf)
    | (refine CALL0.by (C1 ..) rfl ?_; conv => whnf)
    | (refine CALLQ.mk _ _ _ (leL_refl _) (C1 ..) rfl ?_; conv => whnf)
    | (refine CALL0.cutBy lvMono2 _ _ _ _ _ (leL_refl _) (C2 ..) rfl ?_; conv => whnf)
    | (refine CALL0.by (C2 ..) rfl ?_; conv => whnf)
    | (refine CALLQ.mk _ _ _ (leL_refl _) (C2 ..) rfl ?_; conv => whnf)
    | (refine CALL0.cutBy lvMono2 _ _ _ _ _ (leL_refl _) (c_state ..) rfl ?_; conv => whnf)
    | (refine CALL0.by (c_state ..) rfl ?_; conv => whnf)
    | (refine CALLQ.mk _ _ _ (leL_refl _) (c_state ..) rfl ?_; conv => whnf)
    | (refine CALL0.cutBy lvMono2 _ _ _ _ _ (leL_refl _) (P2 ..) rfl ?_; conv => whnf)
    | (refine CALL0.by (P2 ..) rfl ?_; conv => whnf)
    | (refine CALLQ.mk _ _ _ (leL_refl _) (P2 ..) rfl ?_; conv => whnf)
    | (refine CALL0.cutBy lvMono2 _ _ _ _ _ (leL_refl _) (P3 ..) rfl ?_; conv => whnf)
    | (refine CALL0.by (P3 ..) rfl ?_; conv => whnf)
    | (refine CALLQ.mk _ _ _ (leL_refl _) (P3 ..) rfl ?_; conv => whnf)
    | (refine CALL0.cutBy lvMono2 _ _ _ _ _ (leL_refl _) (P4 ..) rfl ?_; conv => whnf)
    | (refine CALL0.by (P4 ..) rfl ?_; conv => whnf)
    | (refine CALLQ.mk _ _ _ (leL_refl _) (P4 ..) rfl ?_; conv => whnf)
    | (refine CALL0.cutBy lvMono2 _ _ _ _ _ (leL_refl _) (F1 ..) rfl ?_; conv => whnf)
    | (refine CALL0.by (F1 ..) rfl ?_; conv => whnf)
    | (refine CALLQ.mk _ _ _ (leL_refl _) (F1 ..) rfl ?_; conv => whnf)
    | (refine CALL0.cutBy lvMono2 _ _ _ _ _ (leL_refl _) (F2 ..) rfl ?_; conv => whnf)
    | (refine CALL0.by (F2 ..) rfl ?_; conv => whnf)
    | (refine CALLQ.mk _ _ _ (leL_refl _) (F2 ..) rfl ?_; conv => whnf)
    | (refine CALL0.cutBy lvMono2 _ _ _ _ _ (leL_refl _) (c_machine ..) rfl ?_; conv => whnf)
    | (refine CALL0.by (c_machine ..) rfl ?_; conv => whnf)
    | (refine CALLQ.mk _ _ _ (leL_refl _) (c_machine ..) rfl ?_; conv => whnf)
  split
  · rename_i h
    exact Bool.noConfusion ((q4).symm.trans h)
  rename_i hN
  clear hN
  conv => whnf
  split
  · rename_i h
    exact Bool.noConfusion ((q5).symm.trans h)
  rename_i hN
  clear hN
  conv => whnf
  split
  · rename_i h
    exact Bool.noConfusion ((q6).symm.trans h)
  rename_i hN
  clear hN
  conv => whnf
  repeat first
    | (refine DRAW.seek ?_; repeat (first | refine TRYD.take ?_ | refine TRYD.next ?_); conv => whnf)
    | (refine HOLD.mk (by first | exact trivial | exact ⟨⟨rfl, rfl⟩, trivial⟩ | exact ⟨⟨rfl, rfl⟩, ⟨rfl, rfl⟩, trivial⟩) ?_; (conv => whnf))
    | (refine CALL0.cutBy lvMono2 _ _ _ _ _ (leL_refl _) (c_machine ..) rfl ?_; conv => whnf)
    | (refine CALL0.by (c_machine ..) rfl ?_; conv => whnf)
    | (refine CALLQ.mk _ _ _ (leL_refl _) (c_machine ..) rfl ?_; conv => whnf)
    | (refine CALL0.cutBy lvMono2 _ _ _ _ _ (leL_refl _) (c_state ..) rfl ?_; conv => whnf)
    | (refine CALL0.by (c_state ..) rfl ?_; conv => whnf)
    | (refine CALLQ.mk _ _ _ (leL_refl _) (c_state ..) rfl ?_; conv => whnf)
    | (refine CALL0.cutBy lvMono2 _ _ _ _ _ (leL_refl _) (T0 ..) rfl ?_; conv => whnf)
    | (refine CALL0.by (T0 ..) rfl ?_; conv => whnf)
    | (refine CALLQ.mk _ _ _ (leL_refl _) (T0 ..) rfl ?_; conv => whnf)
  split
  · rename_i h
    exact Bool.noConfusion ((q7).symm.trans h)
  rename_i hN
  clear hN
  conv => whnf
  repeat first
    | (refine DRAW.seek ?_; repeat (first | refine TRYD.take ?_ | refine TRYD.next ?_); conv => whnf)
    | (refine HOLD.mk (by first | exact trivial | exact ⟨⟨rfl, rfl⟩, trivial⟩ | exact ⟨⟨rfl, rfl⟩, ⟨rfl, rfl⟩, trivial⟩) ?_; (conv => whnf))
    | (refine CALL0.cutBy lvMono2 _ _ _ _ _ (leL_refl _) (hA ..) rfl ?_; conv => whnf)
    | (refine CALL0.by (hA ..) rfl ?_; conv => whnf)
    | (refine CALLQ.mk _ _ _ (leL_refl _) (hA ..) rfl ?_; conv => whnf)
  exact ⟨rfl, rfl⟩

set_option maxHeartbeats 32000000 in
theorem mono_211 (up : List Ces) (hk : gl g_control_kinds = kindsI) (hg : gl g_internal_strconv_uint64pow10 = powI) (m : Mc) (s : Sta) (x y : Int) (hs : m.smallB = true) (ql : decide ((s.mode.size : Int) > 40) = false) (he : s.err m = 0) (qi : eqS s.mode sIdle = false)
    (st : Int) (hst : Int.tmod (IntKind.i64.wrap x) 3 = st) (h1 : 0 ≤ st) (h2 : st ≤ 2) (hkk : Int.tmod (IntKind.i64.wrap y) 3 = 2) (hsafe : s.safeN m = true) (hp : decide (s.pk m st > m.lim) = false) :
    Cs gl n_nacellelaw05_ControlMonotone up [m.iv, s.iv, .agg [.int .u8 x, .int .u8 y]] (.bool true) up := by
  obtain ⟨hm, hfe, hli, hra⟩ := small_ok hs (Mc.err_of (Sta.err_rng he).1)
  obtain ⟨_, hr, hl, hstk, htor, hkn, hft⟩ := Sta.err_rng he
  have g0 := hm.wind
  have g1 := hm.fea
  have g2 := hm.lim
  have g3 := hr.speed
  have g4 := hr.p0
  have g5 := hr.p1
  have g6 := hr.p2
  have e1 : w64 (s.speed - 1) = s.speed - 1 := by rw [w64, wrap_in] <;> omega
  have e2 : w64 (s.p2 + 1) = s.p2 + 1 := by rw [w64, wrap_in] <;> omega
  have e3 : w64 (m.wind - 1) = m.wind - 1 := by rw [w64, wrap_in] <;> omega
  have heS : (Sta.mk s.mode (maxW 0 (w64 (s.speed - 1))) s.p0 s.p1 s.p2 s.tor s.stuck).err m = 0 := err_other he qi rfl rfl rfl (by show 0 ≤ maxW 0 _ ∧ maxW 0 _ ≤ _; rw [e1, maxW_eq]; omega) g4 g5 g6
  have hmin : 0 ≤ minW m.fea (w64 (s.p2 + 1)) ∧ minW m.fea (w64 (s.p2 + 1)) ≤ m.fea ∧ s.p2 ≤ minW m.fea (w64 (s.p2 + 1)) := by
    rw [e2]; unfold minW; split <;> omega
  have heN : (Sta.mk s.mode s.speed s.p0 s.p1 (minW m.fea (w64 (s.p2 + 1))) s.tor s.stuck).err m = 0 := err_other he qi rfl rfl rfl ⟨g3.1, hl⟩ g4 g5 ⟨hmin.1, hmin.2.1⟩
  have hc : (Mc.mk (maxW 1 (w64 (m.wind - 1))) m.fea m.rate m.tor m.lim m.rated m.gain).ok := ⟨by show 1 ≤ maxW 1 _ ∧ maxW 1 _ ≤ 100; rw [e3, maxW_eq]; omega, hm.fea, hm.rate, hm.tor, hm.lim, hm.rated, hm.gain, by
    have := hm.two
    show maxW 1 _ < 2 * m.fea
    rw [e3, maxW_eq]; omega⟩
  have heC : s.err (Mc.mk (maxW 1 (w64 (m.wind - 1))) m.fea m.rate m.tor m.lim m.rated m.gain) = 0 := err_machine he hc rfl rfl rfl
  have hsp : s.speed ≤ 10000 := by omega
  have leS : (Sta.mk s.mode (maxW 0 (w64 (s.speed - 1))) s.p0 s.p1 s.p2 s.tor s.stuck).le s := ⟨by show maxW 0 _ ≤ _; rw [e1, maxW_eq]; omega, Int.le_refl _, Int.le_refl _, Int.le_refl _⟩
  have leN : (Sta.mk s.mode s.speed s.p0 s.p1 (minW m.fea (w64 (s.p2 + 1))) s.tor s.stuck).le s := ⟨Int.le_refl _, Int.le_refl _, Int.le_refl _, hmin.2.2⟩
  have k1 : -1 ≤ st := by omega
  obtain ⟨_, hrS, hlS, _⟩ := Sta.err_rng heS
  obtain ⟨_, hrN, hlN, _⟩ := Sta.err_rng heN
  obtain ⟨_, hrC, hlC, _⟩ := Sta.err_rng heC
  have b0 := pk_ge (m := m) (s := s) (k := st)
  have b1 := pk_le hm hm rfl rfl (Int.le_refl _) (s := s) (t := s) (k := -1) (k' := st) (by omega) (by omega) k1 h2 (.inr rfl) hr hr hsp hsp s.le_refl
  have b2 := pk_le hm hm rfl rfl (Int.le_refl _) (k := st) (k' := st) k1 h2 k1 h2 (.inl rfl) hrS hr (by omega) hsp leS
  have b3 := pk_le hm hm rfl rfl (Int.le_refl _) (k := st) (k' := st) k1 h2 k1 h2 (.inl rfl) hrN hr (by omega) hsp leN
  have b4 := pk_le hc hm rfl rfl (by show maxW 1 _ ≤ m.wind; rw [e3, maxW_eq]; omega) (s := s) (t := s) (k := st) (k' := st) k1 h2 k1 h2 (.inl rfl) hrC hr hsp hsp s.le_refl
  have hS := fun up => c_rSmall (gl := gl) up m
  rw [hs] at hS
  have hE := fun up => c_rState (gl := gl) up m s
  rw [he] at hE
  have hA := fun up => c_awake (gl := gl) up hk hg
  have P0 := fun up => c_PeakOk (gl := gl) up s m st he k1 h2
  have P1 := fun up => c_PeakOk (gl := gl) up s m (-1) he (by omega) (by omega)
  have P2 := fun up => c_PeakOk (gl := gl) up _ m st heS k1 h2
  have P3 := fun up => c_PeakOk (gl := gl) up _ m st heN k1 h2
  have P4 := fun up => c_PeakOk (gl := gl) up s _ st heC k1 h2
  have F0 := fun up => c_SafeOk (gl := gl) up s m he
  have F1 := fun up => c_SafeOk (gl := gl) up _ m heS
  have F2 := fun up => c_SafeOk (gl := gl) up _ m heN
  have C1 := fun up => c_state (gl := gl) up (Sta.mk s.mode (maxW 0 (w64 (s.speed - 1))) s.p0 s.p1 s.p2 s.tor s.stuck)
  have C2 := fun up => c_state (gl := gl) up (Sta.mk s.mode s.speed s.p0 s.p1 (minW m.fea (w64 (s.p2 + 1))) s.tor s.stuck)
  have T0 := fun up => c_StopOk (gl := gl) up s m st he k1 h2
  rw [hsafe] at F0
  rw [hp] at T0
  have s1 := safe_mono hm hrS hr (by omega) hsp leS rfl hsafe
  have s2 := safe_mono hm hrN hr (by omega) hsp leN rfl hsafe
  rw [s1] at F1
  rw [s2] at F2
  have q1 : decide (s.pk m st < s.speed) = false := decide_eq_false (by omega)
  have q2 : decide (s.pk m (-1) > s.pk m st) = false := decide_eq_false (by omega)
  obtain ⟨n, hn⟩ : ∃ n, n = s.num m st := ⟨_, rfl⟩
  have hn2 := num_small hm hfe hli hr hl k1 h2
  rw [← hn] at P0 T0 hn2
  have q4 : decide ((Sta.mk s.mode (maxW 0 (w64 (s.speed - 1))) s.p0 s.p1 s.p2 s.tor s.stuck).pk m st > s.pk m st) = false := decide_eq_false (by omega)
  have q5 : decide ((Sta.mk s.mode s.speed s.p0 s.p1 (minW m.fea (w64 (s.p2 + 1))) s.tor s.stuck).pk m st > s.pk m st) = false := decide_eq_false (by omega)
  have q6 : decide (s.pk (Mc.mk (maxW 1 (w64 (m.wind - 1))) m.fea m.rate m.tor m.lim m.rated m.gain) st > s.pk m st) = false := decide_eq_false (by omega)
  have q7 : (!(true == decide (s.pk m st ≤ m.lim))) = false := by
    have := of_decide_eq_false hp
    rw [show decide (s.pk m st ≤ m.lim) = true from decide_eq_true (by omega)]; rfl
  have q8 : (((1 + n : Nat) : Int) == w64 ((n : Int) + 1)) = true := by
    rw [w64, wrap_in (by omega) (by omega)]
    have : ((1 + n : Nat) : Int) = (n : Int) + 1 := by omega
    simpa using this
  have hCS := fun up => c_CheckStop (gl := gl) up s m st (1 + n) (by omega) (s.stopS m st)
  have eCS : csErr s m st (1 + n) (s.stopS m st) = 0 := by
    rw [cs_err]
    have e0 : s.err0 m st = 0 := by
      unfold Sta.err0
      rw [he, withinS_zero.2 ⟨k1, h2⟩]; rfl
    rw [e0, show ∀ x, orE 0 x = x from fun x => orE_no rfl]
    unfold rcsErr
    rw [show decide (((1 + n : Nat) : Int) > 4096) = false from decide_eq_false (by omega), hp, ← hn, sameSt_refl]; rfl
  rw [eCS] at hCS
  simp only [cond_true, cond_false] at T0
  clear b0 b1 b2 b3 b4 hrS hlS hrN hlN hrC hlC leS leN heS heN heC e1 e2 e3 g0 g1 g2 g3 g4 g5 g6 hr hl hstk htor hkn hft hfe hli hra hn hsafe hp he hsp
  refine mk h_nacellelaw05_ControlMonotone rfl rfl ?_
  conv => whnf
  repeat first
    | (refine DRAW.seek ?_; repeat (first | refine TRYD.take ?_ | refine TRYD.next ?_); conv => whnf)
    | (refine HOLD.mk (by first | exact trivial | exact ⟨⟨rfl, rfl⟩, trivial⟩ | exact ⟨⟨rfl, rfl⟩, ⟨rfl, rfl⟩, trivial⟩) ?_; (conv => whnf))
    | (refine CALL0.cutBy lvMono2 _ _ _ _ _ (leL_refl _) (hS ..) rfl ?_; conv => whnf)
    | (refine CALL0.by (hS ..) rfl ?_; conv => whnf)
    | (refine CALLQ.mk _ _ _ (leL_refl _) (hS ..) rfl ?_; conv => whnf)
  split
  · rename_i h
    exact Bool.noConfusion ((ql).symm.trans h)
  rename_i hN
  clear hN
  conv => whnf
  repeat first
    | (refine DRAW.seek ?_; repeat (first | refine TRYD.take ?_ | refine TRYD.next ?_); conv => whnf)
    | (refine HOLD.mk (by first | exact trivial | exact ⟨⟨rfl, rfl⟩, trivial⟩ | exact ⟨⟨rfl, rfl⟩, ⟨rfl, rfl⟩, trivial⟩) ?_; (conv => whnf))
    | (refine CALL0.cutBy lvMono2 _ _ _ _ _ (leL_refl _) (hE ..) rfl ?_; conv => whnf)
    | (refine CALL0.by (hE ..) rfl ?_; conv => whnf)
    | (refine CALLQ.mk _ _ _ (leL_refl _) (hE ..) rfl ?_; conv => whnf)
  split
  · rename_i h
    exact Bool.noConfusion ((qi).symm.trans h)
  rename_i hN
  clear hN
  conv => whnf
  refine DRAW.seek ?_
  repeat (first | refine TRYD.take ?_ | refine TRYD.next ?_)
  conv => whnf
  simp only [hst, hkk]
  repeat first
    | (refine DRAW.seek ?_; repeat (first | refine TRYD.take ?_ | refine TRYD.next ?_); conv => whnf)
    | (refine HOLD.mk (by first | exact trivial | exact ⟨⟨rfl, rfl⟩, trivial⟩ | exact ⟨⟨rfl, rfl⟩, ⟨rfl, rfl⟩, trivial⟩) ?_; (conv => whnf))
    | (refine CALL0.cutBy lvMono2 _ _ _ _ _ (leL_refl _) (c_machine ..) rfl ?_; conv => whnf)
    | (refine CALL0.by (c_machine ..) rfl ?_; conv => whnf)
    | (refine CALLQ.mk _ _ _ (leL_refl _) (c_machine ..) rfl ?_; conv => whnf)
    | (refine CALL0.cutBy lvMono2 _ _ _ _ _ (leL_refl _) (c_state ..) rfl ?_; conv => whnf)
    | (refine CALL0.by (c_state ..) rfl ?_; conv => whnf)
    | (refine CALLQ.mk _ _ _ (leL_refl _) (c_state ..) rfl ?_; conv => whnf)
    | (refine CALL0.cutBy lvMono2 _ _ _ _ _ (leL_refl _) (P0 ..) rfl ?_; conv => whnf)
    | (refine CALL0.by (P0 ..) rfl ?_; conv => whnf)
    | (refine CALLQ.mk _ _ _ (leL_refl _) (P0 ..) rfl ?_; conv => whnf)
    | (refine CALL0.cutBy lvMono2 _ _ _ _ _ (leL_refl _) (P1 ..) rfl ?_; conv => whnf)
    | (refine CALL0.by (P1 ..) rfl ?_; conv => whnf)
    | (refine CALLQ.mk _ _ _ (leL_refl _) (P1 ..) rfl ?_; conv => whnf)
    | (refine CALL0.cutBy lvMono2 _ _ _ _ _ (leL_refl _) (F0 ..) rfl ?_; conv => whnf)
    | (refine CALL0.by (F0 ..) rfl ?_; conv => whnf)
    | (refine CALLQ.mk _ _ _ (leL_refl _) (F0 ..) rfl ?_; conv => whnf)
  split
  · rename_i h
    exact Bool.noConfusion ((q1).symm.trans h)
  rename_i hN
  clear hN
  conv => whnf
  split
  · rename_i h
    exact Bool.noConfusion ((q2).symm.trans h)
  rename_i hN
  clear hN
  conv => whnf
  repeat first
    | (refine DRAW.seek ?_; repeat (first | refine TRYD.take ?_ | refine TRYD.next ?_); conv => whnf)
    | (refine HOLD.mk (by first | exact trivial | exact ⟨⟨rfl, rfl⟩, trivial⟩ | exact ⟨⟨rfl, rfl⟩, ⟨rfl, rfl⟩, trivial⟩) ?_; (conv => whnf))
    | (refine CALL0.cutBy lvMono2 _ _ _ _ _ (leL_refl _) (c_machine ..) rfl ?_; conv => whnf)
    | (refine CALL0.by (c_machine ..) rfl ?_; conv => whnf)
    | (refine CALLQ.mk _ _ _ (leL_refl _) (c_machine ..) rfl ?_; conv => whnf)
  repeat first
    | (refine DRAW.seek ?_; repeat (first | refine TRYD.take ?_ | refine TRYD.next ?_); conv => whnf)
    | (refine HOLD.mk (by first | exact trivial | exact ⟨⟨rfl, rfl⟩, trivial⟩ | exact ⟨⟨rfl, rfl⟩, ⟨rfl, rfl⟩, trivial⟩) ?_; (conv => whnf))
    | (refine CALL0.cutBy lvMono2 _ _ _ _ _ (leL_refl _) (C1 ..) rfl ?_; conv => whnf)
    | (refine CALL0.by (C1 ..) rfl ?_; conv => whnf)
    | (refine CALLQ.mk _ _ _ (leL_refl _) (C1 ..) rfl ?_; conv => whnf)
    | (refine CALL0.cutBy lvMono2 _ _ _ _ _ (leL_refl _) (C2 ..) rfl ?_; conv => whnf)
    | (refine CALL0.by (C2 ..) rfl ?_; conv => whnf)
    | (refine CALLQ.mk _ _ _ (leL_refl _) (C2 ..) rfl ?_; conv => whnf)
    | (refine CALL0.cutBy lvMono2 _ _ _ _ _ (leL_refl _) (c_state ..) rfl ?_; conv => whnf)
    | (refine CALL0.by (c_state ..) rfl ?_; conv => whnf)
    | (refine CALLQ.mk _ _ _ (leL_refl _) (c_state ..) rfl ?_; conv => whnf)
    | (refine CALL0.cutBy lvMono2 _ _ _ _ _ (leL_refl _) (P2 ..) rfl ?_; conv => whnf)
    | (refine CALL0.by (P2 ..) rfl ?_; conv => whnf)
    | (refine CALLQ.mk _ _ _ (leL_refl _) (P2 ..) rfl ?_; conv => whnf)
    | (refine CALL0.cutBy lvMono2 _ _ _ _ _ (leL_refl _) (P3 ..) rfl ?_; conv => whnf)
    | (refine CALL0.by (P3 ..) rfl ?_; conv => whnf)
    | (refine CALLQ.mk _ _ _ (leL_refl _) (P3 ..) rfl ?_; conv => whnf)
    | (refine CALL0.cutBy lvMono2 _ _ _ _ _ (leL_refl _) (P4 ..) rfl ?_; conv => whnf)
    | (refine CALL0.by (P4 ..) rfl ?_; conv => whnf)
    | (refine CALLQ.mk _ _ _ (leL_refl _) (P4 ..) rfl ?_; conv => whnf)
    | (refine CALL0.cutBy lvMono2 _ _ _ _ _ (leL_refl _) (F1 ..) rfl ?_; conv => whnf)
    | (refine CALL0.by (F1 ..) rfl ?_; conv => whnf)
    | (refine CALLQ.mk _ _ _ (leL_refl _) (F1 ..) rfl ?_; conv => whnf)
    | (refine CALL0.cutBy lvMono2 _ _ _ _ _ (leL_refl _) (F2 ..) rfl ?_; conv => whnf)
    | (refine CALL0.by (F2 ..) rfl ?_; conv => whnf)
    | (refine CALLQ.mk _ _ _ (leL_refl _) (F2 ..) rfl ?_; conv => whnf)
    | (refine CALL0.cutBy lvMono2 _ _ _ _ _ (leL_refl _) (c_machine ..) rfl ?_; conv => whnf)
    | (refine CALL0.by (c_machine ..) rfl ?_; conv => whnf)
    | (refine CALLQ.mk _ _ _ (leL_refl _) (c_machine ..) rfl ?_; conv => whnf)
  split
  · rename_i h
    exact Bool.noConfusion ((q4).symm.trans h)
  rename_i hN
  clear hN
  conv => whnf
  split
  · rename_i h
    exact Bool.noConfusion ((q5).symm.trans h)
  rename_i hN
  clear hN
  conv => whnf
  split
  · rename_i h
    exact Bool.noConfusion ((q6).symm.trans h)
  rename_i hN
  clear hN
  conv => whnf
  repeat first
    | (refine DRAW.seek ?_; repeat (first | refine TRYD.take ?_ | refine TRYD.next ?_); conv => whnf)
    | (refine HOLD.mk (by first | exact trivial | exact ⟨⟨rfl, rfl⟩, trivial⟩ | exact ⟨⟨rfl, rfl⟩, ⟨rfl, rfl⟩, trivial⟩) ?_; (conv => whnf))
    | (refine CALL0.cutBy lvMono2 _ _ _ _ _ (leL_refl _) (c_machine ..) rfl ?_; conv => whnf)
    | (refine CALL0.by (c_machine ..) rfl ?_; conv => whnf)
    | (refine CALLQ.mk _ _ _ (leL_refl _) (c_machine ..) rfl ?_; conv => whnf)
    | (refine CALL0.cutBy lvMono2 _ _ _ _ _ (leL_refl _) (c_state ..) rfl ?_; conv => whnf)
    | (refine CALL0.by (c_state ..) rfl ?_; conv => whnf)
    | (refine CALLQ.mk _ _ _ (leL_refl _) (c_state ..) rfl ?_; conv => whnf)
    | (refine CALL0.cutBy lvMono2 _ _ _ _ _ (leL_refl _) (T0 ..) rfl ?_; conv => whnf)
    | (refine CALL0.by (T0 ..) rfl ?_; conv => whnf)
    | (refine CALLQ.mk _ _ _ (leL_refl _) (T0 ..) rfl ?_; conv => whnf)
  split
  · rename_i h
    exact Bool.noConfusion ((q7).symm.trans h)
  rename_i hN
  clear hN
  conv => whnf
  refine DRAW.seek ?_
  repeat (first | refine TRYD.take ?_ | refine TRYD.next ?_)
  conv => whnf
  rw [show (((1 + n : Nat) : Int) == IntKind.i64.wrap ((n : Int) + 1)) = true from q8]
  conv => whnf
  repeat first
    | (refine DRAW.seek ?_; repeat (first | refine TRYD.take ?_ | refine TRYD.next ?_); conv => whnf)
    | (refine HOLD.mk (by first | exact trivial | exact ⟨⟨rfl, rfl⟩, trivial⟩ | exact ⟨⟨rfl, rfl⟩, ⟨rfl, rfl⟩, trivial⟩) ?_; (conv => whnf))
    | (refine CALL0.cutBy lvMono2 _ _ _ _ _ (leL_refl _) (c_machine ..) rfl ?_; conv => whnf)
    | (refine CALL0.by (c_machine ..) rfl ?_; conv => whnf)
    | (refine CALLQ.mk _ _ _ (leL_refl _) (c_machine ..) rfl ?_; conv => whnf)
    | (refine CALL0.cutBy lvMono2 _ _ _ _ _ (leL_refl _) (c_state ..) rfl ?_; conv => whnf)
    | (refine CALL0.by (c_state ..) rfl ?_; conv => whnf)
    | (refine CALLQ.mk _ _ _ (leL_refl _) (c_state ..) rfl ?_; conv => whnf)
    | (refine CALL0.cutBy lvMono2 _ _ _ _ _ (leL_refl _) (hCS ..) rfl ?_; conv => whnf)
    | (refine CALL0.by (hCS ..) rfl ?_; conv => whnf)
    | (refine CALLQ.mk _ _ _ (leL_refl _) (hCS ..) rfl ?_; conv => whnf)
    | (refine CALL0.cutBy lvMono2 _ _ _ _ _ (leL_refl _) (hA ..) rfl ?_; conv => whnf)
    | (refine CALL0.by (hA ..) rfl ?_; conv => whnf)
    | (refine CALLQ.mk _ _ _ (leL_refl _) (hA ..) rfl ?_; conv => whnf)
  exact ⟨rfl, rfl⟩
end Go.Proofs.YtkdlegfakefjgaaDoor.Ix

/-
  Kt6: ControlMonotone: the law.
-/
namespace Go.Proofs.YtkdlegfakefjgaaDoor.Ix
open Go.Proofs
set_option linter.unusedVariables false
set_option linter.unusedSimpArgs false
variable {gl : Nat → IV}

theorem third {x : Int} (h : 0 ≤ x ∧ x < 256) : 0 ≤ Int.tmod (IntKind.i64.wrap x) 3 ∧ Int.tmod (IntKind.i64.wrap x) 3 ≤ 2 := by
  rw [wrap_in (by omega) (by omega)]
  have h1 := Int.tmod_nonneg (a := x) 3 h.1
  have h2 := Int.tmod_lt_of_pos x (b := 3) (by decide)
  omega

theorem c_ControlMonotone (up : List Ces) (hk : gl g_control_kinds = kindsI) (hg : gl g_internal_strconv_uint64pow10 = powI) (m : Mc) (s : Sta) (x y : Int) (hx : 0 ≤ x ∧ x < 256) (hy : 0 ≤ y ∧ y < 256) :
    Cs gl n_nacellelaw05_ControlMonotone up [m.iv, s.iv, .agg [.int .u8 x, .int .u8 y]] (.bool true) up := by
  cases hs : m.smallB with
  | false => exact mono_no up hk hg m s x y (.inl hs)
  | true =>
  cases ql : decide ((s.mode.size : Int) > 40) with
  | true => exact mono_no up hk hg m s x y (.inr (.inl ql))
  | false =>
  by_cases he : s.err m = 0
  rotate_left
  · exact mono_no up hk hg m s x y (.inr (.inr (.inl (by simpa using he))))
  cases qi : eqS s.mode sIdle with
  | true => exact mono_no up hk hg m s x y (.inr (.inr (.inr qi)))
  | false =>
  obtain ⟨a1, a2⟩ := third hx
  obtain ⟨b1, b2⟩ := third hy
  cases hsafe : s.safeN m with
  | false =>
    cases hp : decide (s.pk m (Int.tmod (IntKind.i64.wrap x) 3) > m.lim) with
    | false =>
      obtain e | e | e : Int.tmod (IntKind.i64.wrap y) 3 = 0 ∨ Int.tmod (IntKind.i64.wrap y) 3 = 1 ∨ Int.tmod (IntKind.i64.wrap y) 3 = 2 := by omega
      · exact mono_001 up hk hg m s x y hs ql he qi _ rfl a1 a2 e hsafe hp
      · exact mono_101 up hk hg m s x y hs ql he qi _ rfl a1 a2 e hsafe hp
      · exact mono_201 up hk hg m s x y hs ql he qi _ rfl a1 a2 e hsafe hp
    | true =>
      obtain e | e | e : Int.tmod (IntKind.i64.wrap y) 3 = 0 ∨ Int.tmod (IntKind.i64.wrap y) 3 = 1 ∨ Int.tmod (IntKind.i64.wrap y) 3 = 2 := by omega
      · exact mono_000 up hk hg m s x y hs ql he qi _ rfl a1 a2 e hsafe hp
      · exact mono_100 up hk hg m s x y hs ql he qi _ rfl a1 a2 e hsafe hp
      · exact mono_200 up hk hg m s x y hs ql he qi _ rfl a1 a2 e hsafe hp
  | true =>
    cases hp : decide (s.pk m (Int.tmod (IntKind.i64.wrap x) 3) > m.lim) with
    | false =>
      obtain e | e | e : Int.tmod (IntKind.i64.wrap y) 3 = 0 ∨ Int.tmod (IntKind.i64.wrap y) 3 = 1 ∨ Int.tmod (IntKind.i64.wrap y) 3 = 2 := by omega
      · exact mono_011 up hk hg m s x y hs ql he qi _ rfl a1 a2 e hsafe hp
      · exact mono_111 up hk hg m s x y hs ql he qi _ rfl a1 a2 e hsafe hp
      · exact mono_211 up hk hg m s x y hs ql he qi _ rfl a1 a2 e hsafe hp
    | true =>
      obtain e | e | e : Int.tmod (IntKind.i64.wrap y) 3 = 0 ∨ Int.tmod (IntKind.i64.wrap y) 3 = 1 ∨ Int.tmod (IntKind.i64.wrap y) 3 = 2 := by omega
      · exact mono_010 up hk hg m s x y hs ql he qi _ rfl a1 a2 e hsafe hp
      · exact mono_110 up hk hg m s x y hs ql he qi _ rfl a1 a2 e hsafe hp
      · exact mono_210 up hk hg m s x y hs ql he qi _ rfl a1 a2 e hsafe hp
end Go.Proofs.YtkdlegfakefjgaaDoor.Ix
