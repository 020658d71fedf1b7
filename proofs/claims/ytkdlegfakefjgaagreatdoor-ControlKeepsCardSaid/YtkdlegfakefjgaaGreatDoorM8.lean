/-
  Cs2: the contract of Print: a loop that writes into a builder, walked at the model's level; what lies between the writings by pieces.
-/
import Derived.Test.YtkdlegfakefjgaaGreatDoorM7
import Derived.MakeChecks
import Derived.Test.YtkdlegfakefjgaaGreatDoorRows
import Derived.Test.YtkdlegfakefjgaaGreatDoorTie
import Derived.Test.YtkdlegfakefjgaaGreatDoorCards
import Derived.ProofKit
import Derived.OpenShut
import Derived.LaidMore
import Derived.Stop.Joined
import Derived.SevenTiedAt
namespace Go.Proofs.YtkdlegfakefjgaaGreatDoor.Ix
open Go.Proofs
set_option maxRecDepth 100000
set_option linter.unusedVariables false
set_option linter.unusedSimpArgs false
variable {gl : Nat → IV}

noncomputable abbrev Γp (gl : Nat → IV) : Env := ⟨prog, T, gl, 48, Vis prog gl, none, some []⟩

set_option maxHeartbeats 400000 in
theorem c_PrintOk (up : List Ces) (hk : gl g_control_kinds = kindsI) (hg : gl g_internal_strconv_uint64pow10 = powI) (n : Nat) (hn : n ≤ 10000000) (l : Nat → Ac) (h0 : actsE n l = 0) :
    Cs gl n_control_Print up [.lst none 5 n fun i => (l i).cs] (.tup [.str (bytesS (actsS l n)), .int .i64 0]) up := by
  refine comp_of_below h_control_Print rfl rfl fun vals w0 I X β σ m hlen ha => ?_
  obtain ⟨v0, rfl⟩ := one_arg hlen
  obtain ⟨hn2, hok⟩ := actsE_ok h0
  have hv0 : D I (.lst none 5 n fun i => (l i).cs) v0 := by
    have h := ha 0 _ rfl
    cases h with
    | data h => exact h
  refine (callsIn_wide (n := 1)).1 (callsIn_of_wp_marks (F := Fw none) h_control_Print rfl trivial ?_)
  have P := fun {c d : Code} {tm : Tms} {K : St → Prop} {R : Exit → Act → World → Prop} (hnr : noRange c = true) (h : iwp (Cs gl) (Γp gl) c (nrm K) ⟨tm, [], []⟩) {a : Act} {w : World} (hb : Go.RowKit.Below w0.heap.size w0 w)
    (htm : ∀ i, V I (fun _ _ => none) noSig (look tm i) (a.tmps.getD i undef)) (hnt : 48 ≤ a.tmps.size) (hd : a.defers = []) hk =>
    piece_seq (n := 1) (d := d) (R := R) (Γ := Γp gl) mixed0 tok0 ⟨fun _ _ _ _ _ h => h, rfl⟩ rfl hnr h (m.below hb).im m.glo (m.below hb).gz htm hnt hd hk
  refine P (K := fun _ => True) (tm := []) ?_ ?_ (.refl _ _) (fun i => .data (.dead _)) ?_ ?_ ?_
  · rfl
  · conv => whnf
    trivial
  · show 48 ≤ (#[v0] ++ Array.replicate 47 undef).size
    simp
  · rfl
  intro a1 w1 _ b1 d1 z1 f1
  have g0 : (#[v0] ++ Array.replicate (48 - #[v0].size) undef).getD 0 undef = v0 := by simp [Array.getD_eq_getD_getElem?]
  have g1 : a1.tmps.getD 0 undef = v0 := (f1 0 (by rfl)).trans g0
  have hp := fun up => c_printable (gl := gl) up hk n hn l
  rw [h0] at hp
  refine P (K := fun _ => True) (tm := [(0, .lst none 5 n fun i => (l i).cs)]) ?_ ?_ b1 ?_ z1 d1 ?_
  · rfl
  · conv => whnf
    repeat first
      | (refine DRAW.seek ?_; repeat (first | refine TRYD.take ?_ | refine TRYD.next ?_); conv => whnf)
      | (refine HOLD.mk (by first | exact trivial | exact ⟨⟨rfl, rfl⟩, trivial⟩ | exact ⟨⟨rfl, rfl⟩, ⟨rfl, rfl⟩, trivial⟩) ?_; (conv => whnf))
      | (refine CALL0.by (hp ..) rfl ?_; conv => whnf)
      | (refine CALLQ.mk _ _ _ (leL_refl _) (hp ..) rfl ?_; conv => whnf)
    trivial
  · intro i
    rw [look_cons]
    split
    · rename_i e; subst e; rw [g1]; exact .data hv0
    · exact .data (.dead _)
  intro a2 w2 _ b2 d2 z2 f2
  have g2 : a2.tmps.getD 0 undef = v0 := (f2 0 (by rfl)).trans g1
  replace b2 := b1.trans (b2.mono b1.size)
  clear f1 f2 g1 z1 d1
  -- the builder
  refine wpIn_seq (wpIn_region ?_)
  refine op_val (o := { dst := some 5, op := Op.alloc 168, type := 0, pos := "act.go:237", after := #[], guard := none }) rfl rfl (fun c e => by cases e) (v := .pointer (some ⟨w2.heap.size, 0, none⟩)) (w2 := w2.alloc (.cells #[.pointer none, .slice none 0 0] 168)) ?_ ?_
  · have hz : (prog.info? 168).map (fun i => i.zero) = some (some (.agg #[.pointer none, .slice none 0 0])) := by kernel_rfl
    cases hi : prog.info? 168 with
    | none => rw [hi] at hz; cases hz
    | some inf =>
      rw [hi] at hz
      have hz : inf.zero = some (.agg #[.pointer none, .slice none 0 0]) := by simpa using hz
      show (execOp a2.eval { dst := some 5, op := Op.alloc 168, type := 0, pos := "act.go:237", after := #[], guard := none }).run prog w2 = _
      simp [execOp, Instr.alloc, zeroValue, typeInfo, hi, hz, newVar, newRow, Value.cells]
  have hbld : Go.Lib.IsBuilder 168 5 w0.heap.size w2.heap.size [] (w2.alloc (.cells #[.pointer none, .slice none 0 0] 168)) :=
    .inl ⟨b2.size, .slice none 0 0, World.alloc_heap_new _ _, ⟨rfl, .inl ⟨rfl, rfl⟩⟩, by simp [Value.ownBlock]⟩
  have b3 := b2.alloc b2.size (.cells #[.pointer none, .slice none 0 0] 168)
  generalize hb : w2.heap.size = b at hbld
  generalize w2.alloc (.cells #[.pointer none, .slice none 0 0] 168) = w3 at hbld b3
  have hg3 : (a2.put (some 5) (.pointer (some ⟨b, 0, none⟩))).tmps.getD 0 undef = v0 := (put_other (by decide)).trans g2
  have hz3 : 48 ≤ (a2.put (some 5) (.pointer (some ⟨b, 0, none⟩))).tmps.size := by rw [put_size]; exact z2
  have hd3 : (a2.put (some 5) (.pointer (some ⟨b, 0, none⟩))).defers = [] := d2
  have hp3 : (a2.put (some 5) (.pointer (some ⟨b, 0, none⟩))).tmps.getD 5 undef = .pointer (some ⟨b, 0, none⟩) := put_same (Nat.lt_of_lt_of_le (show 5 < 48 by decide) z2)
  show Code.wpIn (Fw none) 1 prog _ _ (a2.put (some 5) (.pointer (some ⟨b, 0, none⟩))) w3
  generalize a2.put (some 5) (.pointer (some ⟨b, 0, none⟩)) = a3 at hg3 hz3 hd3 hp3
  clear b2 d2 z2 g2
  let LI : Nat → Act → World → Prop := fun k a w => Go.RowKit.Below w0.heap.size w0 w ∧ a.defers = [] ∧ 48 ≤ a.tmps.size ∧ a.tmps.getD 15 undef = v0 ∧ a.tmps.getD 16 undef = .int .i64 n ∧ a.tmps.getD 17 undef = .int .i64 k ∧
    a.tmps.getD 5 undef = .pointer (some ⟨b, 0, none⟩) ∧ Go.Lib.IsBuilder 168 5 w0.heap.size b (Go.Lib.byteCells (actsS l k)) w
  obtain ⟨p0, c0, hvs⟩ : ∃ p c, v0 = .slice p n c := by
    cases hv0 with
    | lstN => exact ⟨_, _, rfl⟩
    | lst => exact ⟨_, _, rfl⟩
  refine wpIn_seq (wpIn_seq (wpIn_region ?_))
  refine op_val rfl rfl (fun c e => by cases e) (v := v0) (w2 := w3) ?_ ?_
  · show Result.ok (Next.value (a3.tmps.getD 0 undef)) w3 = _
    rw [hg3]
  have hl : (a3.put (some 15) v0).tmps.getD 15 undef = v0 := put_same (Nat.lt_of_lt_of_le (by decide) hz3)
  refine op_val rfl rfl (fun c e => by cases e) (v := .int .i64 n) (w2 := w3) ?_ ?_
  · have hu : prog.underlying 71 = some (.slice 50) := by kernel_rfl
    have hlt : 15 < a3.tmps.size := Nat.lt_of_lt_of_le (by decide) hz3
    simp [execOp, resolve, invoke, go_sem, hlt, hvs, Builtin.len_, run_underlying hu, goInt]
  refine op_val rfl rfl (fun c e => by cases e) (v := .int .i64 0) (w2 := w3) rfl ?_
  simp only [wpOpsIn]
  show Code.wpIn (Fw none) 1 prog _ _ (((a3.put (some 15) v0).put (some 16) (.int .i64 n)).put (some 17) (.int .i64 0)) w3
  have hLI : LI 0 (((a3.put (some 15) v0).put (some 16) (.int .i64 n)).put (some 17) (.int .i64 0)) w3 := by
    refine ⟨b3, hd3, by simp only [put_size]; exact hz3, ?_, ?_, put_same (by simp only [put_size]; omega), ?_, hbld⟩
    · rw [put_other (by decide), put_other (by decide)]; exact hl
    · rw [put_other (by decide)]; exact put_same (by simp only [put_size]; omega)
    · rw [put_other (by decide), put_other (by decide), put_other (by decide)]; exact hp3
  refine wpIn_block (wpIn_loop_from (α := {k : Nat // k ≤ n}) (fun k => LI k.1) (fun k => n - k.1) ⟨0, Nat.zero_le _⟩ hLI ?_)
  clear hLI hl hp3 hd3 hz3 hg3 hbld b3
  rintro ⟨k, hkn⟩ a w ⟨b1, d1, z1, q15, q16, q17, q5, hB⟩
  refine P (K := fun S => S = ⟨[(18, .bool (decide ((k : Int) < n))), (17, .int .i64 k), (16, .int .i64 n)], [], []⟩) (tm := [(17, .int .i64 k), (16, .int .i64 n)]) ?_ ?_ b1 ?_ z1 d1 ?_
  · rfl
  · conv => whnf
  · intro i
    rw [look_cons]
    split
    · rename_i e; subst e; rw [q17]; exact .data (.int _ _)
    · rw [look_cons]
      split
      · rename_i e; subst e; rw [q16]; exact .data (.int _ _)
      · exact .data (.dead _)
  rintro a1 w1 ⟨S', I', β', σ', rfl, ht⟩ b2 d2 z2 f2
  have t18 : a1.tmps.getD 18 undef = .bool (decide ((k : Int) < n)) := (ht 18).bool_inv
  replace q15 := (f2 15 (by rfl)).trans q15
  replace q16 := (f2 16 (by rfl)).trans q16
  replace q17 := (f2 17 (by rfl)).trans q17
  replace q5 := (f2 5 (by rfl)).trans q5
  replace hB := builder_below hB b2
  replace b2 := b1.trans (b2.mono b1.size)
  clear ht f2 b1 d1 z1 I' β' σ'
  by_cases hlt : k < n
  · rw [decide_eq_true (by omega : (k : Int) < n)] at t18
    refine wpIn_seq (wpIn_cond t18 (wpIn_skip ?_))
    show Code.wpIn (Fw none) 1 prog _ _ a1 w1
    refine wpIn_seq (wpIn_block ?_)
    refine round5 (Γ := Γp gl) (C := Cs gl) (K := fun S => look S.tm 44 = .str (bytesS (l k).line)) (tm := [(17, .int .i64 k), (16, .int .i64 n), (15, .lst none 5 n fun i => (l i).cs)]) mixed0 tok0 ⟨fun _ _ _ _ _ h => h, rfl⟩ rfl ?_ ?_ ?_ ?_ ?_ ?_ (m.below b2).im m.glo (m.below b2).gz ?_ z2 d2 ?_
    · exact List.cons_ne_nil _ _
    · rfl
    · rfl
    · rfl
    · rfl
    · have q : decide ((k : Int) < n) = true := decide_eq_true (by omega)
      have hA := hok k hlt
      have hI := fun (up : List Ces) (x : Int) (h : 0 ≤ x ∧ x ≤ 100) => c_Itoa (gl := gl) up hg x ⟨by omega, by omega⟩
      have hM : ∀ up, Cs gl n_control_mapped_int_string up [.lst none 1 3 (litF 1 [.int .i64 (l k).wind, .int .i64 (l k).pitch, .int .i64 (l k).tor]), .fn n_strconv_Itoa [] []] (.lst (some 19) 1 3 fun i => [.str (bytesS (Go.Lib.itoa ([(l k).wind, (l k).pitch, (l k).tor].getD i 0)))]) up := fun up => by
        refine Comp.le ?_ (c_mappedS (gl := gl) up 3 (by decide) (fun i => [(l k).wind, (l k).pitch, (l k).tor].getD i 0) (fun i => bytesS (Go.Lib.itoa ([(l k).wind, (l k).pitch, (l k).tor].getD i 0))) n_strconv_Itoa fun up i hi => hI up _ ?_)
        · refine ⟨⟨.inl rfl, rfl, rfl, fun i hi => ?_⟩, leV_refl _, trivial⟩
          match i, hi with
          | 0, _ => rfl
          | 1, _ => rfl
          | 2, _ => rfl
        · match i, hi with
          | 0, _ => exact hA.wind
          | 1, _ => exact hA.pitch
          | 2, _ => exact hA.tor
      have hJ : ∀ up, Cs gl n_strings_Join up [.lst none 1 5 fun i => [.str (bytesS ((l k).words.getD i []))], .str (bytesS [32])] (.str (bytesS (Go.Lib.join (l k).words [32]))) up := fun up => by
        have := c_Join (gl := gl) up 5 (fun i => [.str (bytesS ((l k).words.getD i []))]) (fun i => (l k).words.getD i []) [32] (fun i hi => rfl) (by decide) (by
          show (Go.Lib.join (l k).words [32]).length ≤ _
          have := line_len hA
          rw [line_eq, List.length_append] at this
          omega)
        exact this
      have hlen : (Go.Lib.join (l k).words [32]).length ≤ 110 := by
        have := line_len hA
        rw [line_eq, List.length_append] at this
        omega
      have hlen2 : decide ((bytesS (Go.Lib.join (l k).words [32])).size + (bytesS [10]).size ≤ 1099511627776) = true := decide_eq_true (by rw [bytesS_size, bytesS_size]; simp only [List.length_cons, List.length_nil]; omega)
      have hI4 := fun up => hI up (l k).stuck
      cases qs : ((l k).stuck != -1) with
      | true =>
        have hst : 0 ≤ (l k).stuck ∧ (l k).stuck ≤ 100 := by
          have := hA.stuck
          have : (l k).stuck ≠ -1 := by simpa using qs
          omega
        have hI4 := fun up => hI up (l k).stuck hst
        have hb : (l k).blade = Go.Lib.itoa (l k).stuck := by unfold Ac.blade; rw [qs]; rfl
        conv => whnf
        split
        rotate_left
        · rename_i h
          exact Bool.noConfusion ((q).symm.trans h)
        rename_i hN
        clear hN
        conv => whnf
        repeat first
          | (refine DRAW.seek ?_; repeat (first | refine TRYD.take ?_ | refine TRYD.next ?_); conv => whnf)
          | (refine HOLD.mk (by first | exact trivial | exact ⟨⟨rfl, rfl⟩, trivial⟩ | exact ⟨⟨rfl, rfl⟩, ⟨rfl, rfl⟩, trivial⟩) ?_; (conv => whnf))
          | (refine CALL0.by (hM ..) rfl ?_; conv => whnf)
          | (refine CALLQ.mk _ _ _ (leL_refl _) (hM ..) rfl ?_; conv => whnf)
        split
        rotate_left
        · rename_i h
          exact Bool.noConfusion ((qs).symm.trans h)
        rename_i hN
        clear hN
        conv => whnf
        repeat first
          | (refine DRAW.seek ?_; repeat (first | refine TRYD.take ?_ | refine TRYD.next ?_); conv => whnf)
          | (refine HOLD.mk (by first | exact trivial | exact ⟨⟨rfl, rfl⟩, trivial⟩ | exact ⟨⟨rfl, rfl⟩, ⟨rfl, rfl⟩, trivial⟩) ?_; (conv => whnf))
          | (refine CALL0.by (hI4 ..) rfl ?_; conv => whnf)
          | (refine CALLQ.mk _ _ _ (leL_refl _) (hI4 ..) rfl ?_; conv => whnf)
        refine .mk _ _ _ _ _ ?_ (hJ _) rfl ?_
        · refine ⟨⟨.inl rfl, rfl, rfl, fun i hi => ?_⟩, leV_refl _, trivial⟩
          match i, hi with
          | 0, _ => show [IV.str (l k).kind] = [.str (bytesS (l k).kind.data.toList)]; rw [bytesS_mk]
          | 1, _ => rfl
          | 2, _ => rfl
          | 3, _ => rfl
          | 4, _ => show [IV.str _] = [.str (bytesS (l k).blade)]; rw [hb]
        conv => whnf
        split
        rotate_left
        · rename_i h
          exact Bool.noConfusion ((hlen2).symm.trans h)
        rename_i hN
        clear hN
        conv => whnf
        show IV.str (bytesS (Go.Lib.join (l k).words [32]) ++ bytesS [10]) = .str (bytesS (l k).line)
        rw [bytesS_append, line_eq]
      | false =>
        have hb : (l k).blade = [45] := by unfold Ac.blade; rw [qs]; rfl
        conv => whnf
        split
        rotate_left
        · rename_i h
          exact Bool.noConfusion ((q).symm.trans h)
        rename_i hN
        clear hN
        conv => whnf
        repeat first
          | (refine DRAW.seek ?_; repeat (first | refine TRYD.take ?_ | refine TRYD.next ?_); conv => whnf)
          | (refine HOLD.mk (by first | exact trivial | exact ⟨⟨rfl, rfl⟩, trivial⟩ | exact ⟨⟨rfl, rfl⟩, ⟨rfl, rfl⟩, trivial⟩) ?_; (conv => whnf))
          | (refine CALL0.by (hM ..) rfl ?_; conv => whnf)
          | (refine CALLQ.mk _ _ _ (leL_refl _) (hM ..) rfl ?_; conv => whnf)
        split
        · rename_i h
          exact Bool.noConfusion ((qs).symm.trans h)
        rename_i hN
        clear hN
        conv => whnf
        refine .mk _ _ _ _ _ ?_ (hJ _) rfl ?_
        · refine ⟨⟨.inl rfl, rfl, rfl, fun i hi => ?_⟩, leV_refl _, trivial⟩
          match i, hi with
          | 0, _ => show [IV.str (l k).kind] = [.str (bytesS (l k).kind.data.toList)]; rw [bytesS_mk]
          | 1, _ => rfl
          | 2, _ => rfl
          | 3, _ => rfl
          | 4, _ => show [IV.str _] = [.str (bytesS (l k).blade)]; rw [hb]
        conv => whnf
        split
        rotate_left
        · rename_i h
          exact Bool.noConfusion ((hlen2).symm.trans h)
        rename_i hN
        clear hN
        conv => whnf
        show IV.str (bytesS (Go.Lib.join (l k).words [32]) ++ bytesS [10]) = .str (bytesS (l k).line)
        rw [bytesS_append, line_eq]
    · intro i
      rw [look_cons]
      split
      · rename_i e; subst e; rw [q17]; exact .data (.int _ _)
      · rw [look_cons]
        split
        · rename_i e; subst e; rw [q16]; exact .data (.int _ _)
        · rw [look_cons]
          split
          · rename_i e; subst e; rw [q15]; exact .data hv0
          · exact .data (.dead _)
    · intro a3 w3 ⟨S', I', β', σ', hS, ht⟩ b3 d3 z3 f3
      have t44 : a3.tmps.getD 44 undef = .string (bytesS (l k).line) := by
        have h := ht 44
        rw [hS] at h
        exact h.str_inv
      replace q15 := (f3 15 (by rfl)).trans q15
      replace q16 := (f3 16 (by rfl)).trans q16
      replace q17 := (f3 17 (by rfl)).trans q17
      replace q5 := (f3 5 (by rfl)).trans q5
      replace hB := builder_below hB b3
      replace b3 := b2.trans (b3.mono b2.size)
      clear ht hS f3 b2 d2 z2 I' β' σ' S' t18
      refine op_call rfl rfl rfl rfl h_strings_Builder_WriteString rfl rfl ?_
      have hargs : (#[Operand.tmp 5, Operand.tmp 44].map a3.eval) = #[.pointer (some ⟨b, 0, none⟩), .string (bytesS (l k).line)] := by
        have e5 : a3.eval (.tmp 5) = _ := q5
        have e44 : a3.eval (.tmp 44) = _ := t44
        simp [e5, e44]
      show Calls prog 109 (#[Operand.tmp 5, Operand.tmp 44].map a3.eval) w3 _
      rw [hargs]
      refine (Any.Builder_WriteString { laysJoin with } extraJoin w0.heap.size b _ _ w3 hB ?_ b3.size).mono ?_
      · have h1 := actsS_len k fun i hi => hok i (by omega)
        have h2 := line_len (hok k hlt)
        show (Go.Lib.byteCells (actsS l k)).length + (bytesS (l k).line).size ≤ _
        rw [bytesS_size]
        unfold Go.Lib.byteCells
        rw [List.length_map]
        omega
      rintro e w4 ⟨rfl, hB4, b4⟩
      refine ⟨_, rfl, ?_⟩
      replace b4 := b3.trans b4
      have hB4 : Go.Lib.IsBuilder 168 5 w0.heap.size b (Go.Lib.byteCells (actsS l (k + 1))) w4 := by
        refine .inr ?_
        have e : Go.Lib.byteCells (actsS l (k + 1)) = Go.Lib.byteCells (actsS l k) ++ Go.Lib.strCells (bytesS (l k).line) := by
          show List.map _ (actsS l k ++ (l k).line) = _
          rw [List.map_append]; rfl
        rw [e]; exact hB4
      clear hB b3
      simp only [wpOpsIn]
      have z4 : 48 ≤ (a3.put (some 45) (.tuple #[.int .i64 ((bytesS (l k).line).size : Int), .nilIface])).tmps.size := by rw [put_size]; exact z3
      have d4 : (a3.put (some 45) (.tuple #[.int .i64 ((bytesS (l k).line).size : Int), .nilIface])).defers = [] := d3
      have p15 := (put_other (a := a3) (d := 45) (i := 15) (v := (.tuple #[.int .i64 ((bytesS (l k).line).size : Int), .nilIface])) (by decide)).trans q15
      have p16 := (put_other (a := a3) (d := 45) (i := 16) (v := (.tuple #[.int .i64 ((bytesS (l k).line).size : Int), .nilIface])) (by decide)).trans q16
      have p17 := (put_other (a := a3) (d := 45) (i := 17) (v := (.tuple #[.int .i64 ((bytesS (l k).line).size : Int), .nilIface])) (by decide)).trans q17
      have p5 := (put_other (a := a3) (d := 45) (i := 5) (v := (.tuple #[.int .i64 ((bytesS (l k).line).size : Int), .nilIface])) (by decide)).trans q5
      show Code.wpIn (Fw none) 1 prog _ _ (a3.put (some 45) (.tuple #[.int .i64 ((bytesS (l k).line).size : Int), .nilIface])) w4
      generalize a3.put (some 45) (.tuple #[.int .i64 ((bytesS (l k).line).size : Int), .nilIface]) = a4 at z4 d4 p15 p16 p17 p5
      clear q15 q16 q17 q5 t44 z3 d3 hargs
      have hw : w64 ((k : Int) + 1) = ((k + 1 : Nat) : Int) := by rw [w64, wrap_in] <;> omega
      refine wpIn_mono (piece (Γ := Γp gl) (Q := nrm fun S => look S.tm 17 = .int .i64 (k + 1 : Nat)) (tm := [(17, .int .i64 k)]) mixed0 tok0 ⟨fun _ _ _ _ _ h => h, rfl⟩ rfl ?_ ?_ (m.below b4).im m.glo (m.below b4).gz ?_ z4 d4) ?_
      · rfl
      · conv => whnf
        show IV.int .i64 (w64 ((k : Int) + 1)) = _
        rw [hw]
      · intro i
        rw [look_cons]
        split
        · rename_i e; subst e; rw [p17]; exact .data (.int _ _)
        · exact .data (.dead _)
      rintro e a5 w5 ⟨hq, b5, d5, z5, f5⟩
      cases e with
      | normal =>
        obtain ⟨S', I', β', σ', hS, ht⟩ := hq
        have hS : look S'.tm 17 = .int .i64 (k + 1 : Nat) := hS
        refine ⟨⟨k + 1, hlt⟩, ⟨b4.trans (b5.mono b4.size), d5, z5, (f5 15 (by rfl)).trans p15, (f5 16 (by rfl)).trans p16, ?_, (f5 5 (by rfl)).trans p5, builder_below hB4 b5⟩, ?_⟩
        · have h := ht 17
          rw [hS] at h
          exact h.int_inv
        · show n - (k + 1) < n - k
          omega
      | ret => obtain ⟨_, _, _, _, h, _⟩ := hq; exact h.elim
      | exit id => obtain ⟨_, _, _, _, h, _⟩ := hq; exact h.elim
      | goto l => exact hq.elim
      | panic c => exact hq.elim
      | outgrown => exact hq.elim
  · rw [decide_eq_false (by omega : ¬ (k : Int) < n)] at t18
    refine wpIn_seq (wpIn_cond t18 (wpIn_exit ?_))
    show Code.wpIn (Fw none) 1 prog _ _ a1 w1
    have : k = n := by omega
    subst this
    refine wpIn_seq (wpIn_region ?_)
    refine op_call rfl rfl rfl rfl h_strings_Builder_String rfl rfl ?_
    have hargs : (#[Operand.tmp 5].map a1.eval) = #[.pointer (some ⟨b, 0, none⟩)] := by
      have e5 : a1.eval (.tmp 5) = _ := q5
      simp [e5]
    show Calls prog 111 (#[Operand.tmp 5].map a1.eval) w1 _
    rw [hargs]
    refine (Any.Builder_String_any { laysJoin with } extraJoin w0.heap.size b _ w1 hB b2.size).mono ?_
    rintro e w4 ⟨rfl, b4⟩
    refine ⟨_, rfl, ?_⟩
    replace b4 := b2.trans b4
    have p47 : (a1.put (some 47) (.string (bytesS (actsS l k)))).tmps.getD 47 undef = .string (bytesS (actsS l k)) := put_same (Nat.lt_of_lt_of_le (show 47 < 48 by decide) z2)
    refine op_val rfl rfl (fun c e => by cases e) (v := .string (bytesS (actsS l k))) (w2 := w4) ?_ ?_
    · show Result.ok (Next.value ((a1.put (some 47) (.string (bytesS (actsS l k)))).tmps.getD 47 undef)) w4 = _
      rw [p47]
    refine op_val rfl rfl (fun c e => by cases e) (v := .int .i64 0) (w2 := w4) rfl ?_
    simp only [wpOpsIn]
    have p2 : (((a1.put (some 47) (.string (bytesS (actsS l k)))).put (some 2) (.string (bytesS (actsS l k)))).put (some 3) (.int .i64 0)).tmps.getD 2 undef = .string (bytesS (actsS l k)) := by
      rw [put_other (by decide)]
      exact put_same (by rw [put_size]; exact Nat.lt_of_lt_of_le (show 2 < 48 by decide) z2)
    have p3 : (((a1.put (some 47) (.string (bytesS (actsS l k)))).put (some 2) (.string (bytesS (actsS l k)))).put (some 3) (.int .i64 0)).tmps.getD 3 undef = .int .i64 0 := put_same (by rw [put_size, put_size]; exact Nat.lt_of_lt_of_le (show 3 < 48 by decide) z2)
    have pd : (((a1.put (some 47) (.string (bytesS (actsS l k)))).put (some 2) (.string (bytesS (actsS l k)))).put (some 3) (.int .i64 0)).defers = [] := d2
    show Code.wpIn (Fw none) 1 prog Code.ret _ (((a1.put (some 47) (.string (bytesS (actsS l k)))).put (some 2) (.string (bytesS (actsS l k)))).put (some 3) (.int .i64 0)) w4
    generalize (((a1.put (some 47) (.string (bytesS (actsS l k)))).put (some 2) (.string (bytesS (actsS l k)))).put (some 3) (.int .i64 0)) = a9 at p2 p3 pd
    refine wpIn_ret ?_
    show LeavesInM (Fw none) 1 prog f_control_Print a9.tmps _ a9.defers .returning w4
    rw [pd]
    refine ⟨.tuple #[.string (bytesS (actsS l k)), .int .i64 0], ?_, _, rfl, ?_, b4⟩
    · have hr : f_control_Print.results = #[.tmp 2, .tmp 3] := rfl
      rw [results_eq, hr]
      simp [resSem, p2, p3]
    · refine .tup _ _ rfl fun j x hx => ?_
      match j, hx with
      | 0, hx => simp at hx; subst hx; exact .str _
      | 1, hx => simp at hx; subst hx; exact .int _ _

theorem c_Print (up : List Ces) (hk : gl g_control_kinds = kindsI) (hg : gl g_internal_strconv_uint64pow10 = powI) (n : Nat) (hn : n ≤ 10000000) (l : Nat → Ac) :
    Cs gl n_control_Print up [.lst none 5 n fun i => (l i).cs] (bif actsE n l != 0 then .tup [.str (bytesS []), .int .i64 (actsE n l)] else .tup [.str (bytesS (actsS l n)), .int .i64 0]) up := by
  by_cases h0 : actsE n l = 0
  · have q : (actsE n l != 0) = false := by simpa using h0
    rw [q]
    exact c_PrintOk up hk hg n hn l h0
  · have q : (actsE n l != 0) = true := by simpa using h0
    rw [q]
    refine mk h_control_Print rfl rfl ?_
    have hp := fun up => c_printable (gl := gl) up hk n hn l
    conv => whnf
    repeat first
      | (refine DRAW.seek ?_; repeat (first | refine TRYD.take ?_ | refine TRYD.next ?_); conv => whnf)
      | (refine HOLD.mk (by first | exact trivial | exact ⟨⟨rfl, rfl⟩, trivial⟩ | exact ⟨⟨rfl, rfl⟩, ⟨rfl, rfl⟩, trivial⟩) ?_; (conv => whnf))
      | (refine CALL0.by (hp ..) rfl ?_; conv => whnf)
      | (refine CALLQ.mk _ _ _ (leL_refl _) (hp ..) rfl ?_; conv => whnf)
    split
    rotate_left
    · rename_i h
      exact Bool.noConfusion ((q).symm.trans h)
    rename_i hN
    clear hN
    conv => whnf
    exact ⟨rfl, rfl⟩
end Go.Proofs.YtkdlegfakefjgaaGreatDoor.Ix

/-
  Aw5: the package control returns the results of the examples: awake() is true.
-/
namespace Go.Proofs.YtkdlegfakefjgaaGreatDoor.Ix
open Go.Proofs
set_option maxRecDepth 100000
set_option linter.unusedVariables false
set_option linter.unusedSimpArgs false
variable {gl : Nat → IV}

def usM : Mc := ⟨10, 6, 2, 8, 40, 20, 1⟩
theorem us_ok : usM.ok := Mc.err_ok (by decide +kernel)
theorem us_fea : usM.fea ≤ 20 := by decide
def begA : Nat → Ac
  | 0 => ⟨sStart, 0, 0, 0, -1⟩
  | _ + 1 => ⟨sTick, 10, 0, 0, -1⟩

theorem c_usual (up : List Ces) : Cs gl n_nacellelaw05_usual up [] usM.iv up := by
  refine mk h_nacellelaw05_usual rfl rfl ?_
  conv => whnf
  exact ⟨rfl, rfl⟩

theorem c_begun (up : List Ces) : Cs gl n_nacellelaw05_begun up [] (.lst none 5 4 fun i => (begA i).cs) up := by
  have h : Cs gl n_nacellelaw05_begun up [] (.lst (some 5) 5 4 (litF 5 [.str sStart, .int .i64 0, .int .i64 0, .int .i64 0, .int .i64 (-1), .str sTick, .int .i64 10, .int .i64 0, .int .i64 0, .int .i64 (-1), .str sTick, .int .i64 10, .int .i64 0, .int .i64 0, .int .i64 (-1), .str sTick, .int .i64 10, .int .i64 0, .int .i64 0, .int .i64 (-1)])) up := by
    refine mk h_nacellelaw05_begun rfl rfl ?_
    conv => whnf
    exact ⟨rfl, rfl⟩
  refine h.res ⟨.inl rfl, rfl, rfl, fun i hi => ?_⟩
  match i, hi with
  | 0, _ => rfl
  | 1, _ => rfl
  | 2, _ => rfl
  | 3, _ => rfl

theorem beg_run : repE usM begA 4 0 = (0, 0) := by
  rw [repE_run us_ok us_fea begA 4 0 (begin_inv us_ok)]
  decide +kernel
theorem beg_e0 : repE0 usM 4 = 0 := by decide +kernel
theorem beg_s : repS usM begA 4 = ⟨sRun, 14, 0, 0, 0, 0, -1⟩ := by
  rw [rep_run]
  kernel_rfl

def stA (r : ByteArray) : Sta := ⟨r, 14, 0, 0, 0, 0, -1⟩

theorem a_Replay (up : List Ces) (hk : gl g_control_kinds = kindsI) (r : ByteArray) (hr : r = sRun) : Cs gl n_control_Replay up [usM.iv, .lst none 5 4 fun i => (begA i).cs] (.tup [(stA r).iv, .int .i64 0, .int .i64 0]) up := by
  have h := c_Replay (gl := gl) up hk usM 4 (by decide) begA
  rw [beg_e0, beg_run, beg_s] at h
  subst hr
  exact h

def spd : Nat → Int := fun i => [0, 0, 4, 14].getD i 0
theorem a_Speeds (up : List Ces) (hk : gl g_control_kinds = kindsI) : Cs gl n_control_Speeds up [usM.iv, .lst none 5 4 fun i => (begA i).cs] (.tup [.lst none 1 4 fun i => [.int .i64 (spd i)], .int .i64 0]) up := by
  have h := c_Speeds (gl := gl) up hk usM 4 (by decide) begA
  rw [beg_e0, beg_run] at h
  refine Comp.res (r := .tup [.lst (some 20) 1 4 fun i => [.int .i64 (repS usM begA (i + 1)).speed], .int .i64 0]) h ⟨⟨.inl rfl, rfl, rfl, fun i hi => ?_⟩, leV_refl _, trivial⟩
  show [IV.int .i64 (repS usM begA (i + 1)).speed] = [.int .i64 (spd i)]
  rw [rep_run]
  obtain rfl | rfl | rfl | rfl : i = 0 ∨ i = 1 ∨ i = 2 ∨ i = 3 := by omega
  all_goals kernel_rfl

def stpL (z : ByteArray) : List Sta := [⟨sStop, 14, 0, 0, 0, 0, 0⟩, ⟨sStop, 20, 0, 2, 2, 0, 0⟩, ⟨sStop, 22, 0, 4, 4, 0, 0⟩, ⟨sStop, 20, 0, 6, 6, 0, 0⟩, ⟨sStop, 18, 0, 6, 6, 0, 0⟩, ⟨sStop, 16, 0, 6, 6, 0, 0⟩, ⟨sStop, 14, 0, 6, 6, 0, 0⟩, ⟨sStop, 12, 0, 6, 6, 0, 0⟩, ⟨sStop, 10, 0, 6, 6, 0, 0⟩, ⟨sStop, 8, 0, 6, 6, 0, 0⟩, ⟨sStop, 6, 0, 6, 6, 0, 0⟩, ⟨sStop, 4, 0, 6, 6, 0, 0⟩, ⟨sStop, 2, 0, 6, 6, 0, 0⟩, ⟨sStop, 0, 0, 6, 6, 0, 0⟩]
def stp (z : ByteArray) (i : Nat) : Sta := (stpL z).getD i Sta.zero

theorem stA_rng : (stA sRun).rng usM := ⟨by decide, by decide, by decide, by decide⟩
theorem stA_err : (stA sRun).err usM = 0 := by
  rw [staErr_run]
  decide +kernel
theorem stA_run : (stA sRun).pk usM 0 = 22 ∧ (stA sRun).num usM 0 = 13 := by
  have h := pk_run us_ok (k := 0) (by decide) stA_rng (by decide) (mu_small us_ok us_fea stA_rng (by decide) _)
  have e : (stA sRun).runW usM 0 = (22, 13) := by kernel_rfl
  rw [e] at h
  exact h
theorem stA_takes : (stA sRun).takes usM 0 13 := by
  have h := (takes_num us_ok stA_rng (by decide) (stuck := 0) (by decide) (by decide)).1
  rw [stA_run.2] at h
  exact h

theorem stp_eq : ∀ i, i < 14 → (stA sRun).stopS usM 0 i = stp sStop i := by
  intro i hi
  obtain rfl | rfl | rfl | rfl | rfl | rfl | rfl | rfl | rfl | rfl | rfl | rfl | rfl | rfl : i = 0 ∨ i = 1 ∨ i = 2 ∨ i = 3 ∨ i = 4 ∨ i = 5 ∨ i = 6 ∨ i = 7 ∨ i = 8 ∨ i = 9 ∨ i = 10 ∨ i = 11 ∨ i = 12 ∨ i = 13 := by omega
  all_goals kernel_rfl

theorem eqSta_refl (s : Sta) : eqSta s s = true := by
  unfold eqSta
  rw [eqS_iff.2 rfl]
  simp

theorem a_Stop (up : List Ces) (r z : ByteArray) (hr : r = sRun) (hz : z = sStop) : Cs gl n_control_Stop up [usM.iv, (stA r).iv, .int .i64 0] (.tup [.lst none 7 14 fun i => (stp z i).cs, .int .i64 0]) up := by
  subst hr
  subst hz
  have h := c_Stop (gl := gl) up (stA sRun) usM 0 13 fun _ => ⟨stA_takes, by decide⟩
  have e0 : ((stA sRun).err0 usM 0 != 0) = false := by
    unfold Sta.err0
    rw [stA_err]
    decide
  have e1 : decide ((stA sRun).most usM 0 13 > usM.lim) = false := by
    have h := stA_run.1
    unfold Sta.pk at h
    rw [stA_run.2] at h
    rw [h]; decide
  unfold Sta.StopR at h
  rw [e0, e1, stopF_eq] at h
  refine Comp.res (r := .tup [.lst (some 25) 7 14 fun i => ((stA sRun).stopS usM 0 i).cs, .int .i64 0]) h ⟨⟨.inl rfl, rfl, rfl, fun i hi => ?_⟩, leV_refl _, trivial⟩
  show ((stA sRun).stopS usM 0 i).cs = (stp sStop i).cs
  rw [stp_eq i hi]

theorem a_Peak (up : List Ces) (r : ByteArray) (hr : r = sRun) : Cs gl n_control_Peak up [usM.iv, (stA r).iv, .int .i64 0] (.tup [.int .i64 22, .int .i64 13, .int .i64 0]) up := by
  subst hr
  have h := c_Peak (gl := gl) up (stA sRun) usM 0 13 fun _ => ⟨stA_takes, by decide⟩
  have e0 : ((stA sRun).err0 usM 0 != 0) = false := by
    unfold Sta.err0
    rw [stA_err]
    decide
  have e1 : (stA sRun).most usM 0 13 = 22 := by
    have h := stA_run.1
    unfold Sta.pk at h
    rwa [stA_run.2] at h
  unfold Sta.peakR at h
  rw [e0, e1] at h
  exact h

theorem a_CheckStop (up : List Ces) (r z : ByteArray) (hr : r = sRun) (hz : z = sStop) : Cs gl n_control_CheckStop up [usM.iv, (stA r).iv, .int .i64 0, .lst none 7 14 fun i => (stp z i).cs] (.int .i64 0) up := by
  subst hr
  subst hz
  have h := c_CheckStop (gl := gl) up (stA sRun) usM 0 14 (by decide) (stp sStop)
  have e0 : (csErr0 (stA sRun) usM 0 14 != 0) = false := by
    unfold csErr0
    rw [stA_err]
    decide
  have e1 : decide ((stA sRun).most usM 0 ((stA sRun).num usM 0) > usM.lim) = false := by
    have h := stA_run.1
    unfold Sta.pk at h
    rw [h]; decide
  have e2 : allB (fun i => eqSta (stp sStop i) ((stA sRun).stopS usM 0 i)) 14 0 = true := by
    have g : ∀ n i, i + n ≤ 14 → allB (fun i => eqSta (stp sStop i) ((stA sRun).stopS usM 0 i)) n i = true := by
      intro n
      induction n with
      | zero => intro i _; rfl
      | succ n ih =>
        intro i hi
        unfold allB
        rw [ih (i + 1) (by omega), stp_eq i (by omega), eqSta_refl]; rfl
    exact g 14 0 (by decide)
  unfold csErr at h
  rw [e0, e1, e2, stA_run.2] at h
  exact h

def rwL : List Rw := [⟨0, 32⟩, ⟨1, 37⟩, ⟨2, 40⟩, ⟨3, 40⟩, ⟨4, 40⟩, ⟨5, 40⟩, ⟨6, 40⟩]
theorem rows_us : rowsOf usM (numN usM) 7 = rwL := by
  rw [rows_run us_ok us_fea 7 (by decide)]
  kernel_rfl
theorem a_Table (up : List Ces) : Cs gl n_control_Table up [usM.iv] (.tup [.lst none 2 7 fun i => (rwL.getD i row0).cs, .int .i64 0]) up := by
  have h := c_Table (gl := gl) up usM (numN usM) fun hm a v h1 h2 h3 h4 k hk => tab_takes hm a v h1 h2 h3 h4 k hk
  unfold tableR at h
  rw [show (usM.err != 0) = false by decide +kernel, show (usM.fea + 1).toNat = 7 from rfl, rows_us] at h
  exact Comp.res h ⟨tagless _ _ _ _, leV_refl _, trivial⟩

def fastS (r : ByteArray) : Sta := ⟨r, 30, 0, 0, 0, 0, -1⟩
theorem fast_rng : (fastS sRun).rng usM := ⟨by decide, by decide, by decide, by decide⟩
theorem fast_err : (fastS sRun).err usM = 0 := by
  rw [staErr_run]
  decide +kernel
theorem a_Allowed (up : List Ces) (hk : gl g_control_kinds = kindsI) (r : ByteArray) (hr : r = sRun) (t : ByteArray) (ht : t = sTick) : Cs gl n_control_Allowed up [usM.iv, (fastS r).iv, (Ac.mk t 10 0 0 (-1)).iv] (.tup [.int .i64 7, .int .i64 0]) up := by
  subst hr
  subst ht
  have h := c_Allowed (gl := gl) up hk usM (fastS sRun) ⟨sTick, 10, 0, 0, -1⟩
  have e1 : (Ac.mk sTick 10 0 0 (-1)).err usM = 0 := by
    rw [acErr_run]
    decide +kernel
  have e0 : (actE usM (fastS sRun) ⟨sTick, 10, 0, 0, -1⟩ != 0) = false := by
    unfold actE
    rw [fast_err, e1]
    decide
  rw [e0, allowed_run us_ok us_fea fast_rng (Ac.err_ok e1).2.1, show (fastS sRun).allowedX usM ⟨sTick, 10, 0, 0, -1⟩ = 7 by kernel_rfl] at h
  exact h

theorem a_Next (up : List Ces) (hk : gl g_control_kinds = kindsI) (r : ByteArray) (hr : r = sRun) (t : ByteArray) (ht : t = sTick) : Cs gl n_control_Next up [usM.iv, (fastS r).iv, (Ac.mk t 10 0 8 (-1)).iv] (.tup [(Sta.mk r 32 0 0 0 8 (-1)).iv, .int .i64 0]) up := by
  subst hr
  subst ht
  have h := c_Next (gl := gl) up hk usM (fastS sRun) ⟨sTick, 10, 0, 8, -1⟩
  have e1 : (Ac.mk sTick 10 0 8 (-1)).err usM = 0 := by
    rw [acErr_run]
    decide +kernel
  have e0 : (actE usM (fastS sRun) ⟨sTick, 10, 0, 8, -1⟩ != 0) = false := by
    unfold actE
    rw [fast_err, e1]
    decide
  unfold nextR at h
  rw [e0, allowed_run us_ok us_fea fast_rng (Ac.err_ok e1).2.1, show (fastS sRun).allowedX usM ⟨sTick, 10, 0, 8, -1⟩ = 0 by kernel_rfl, behind_run, show (fastS sRun).behindX usM ⟨sTick, 10, 0, 8, -1⟩ = ⟨sRun, 32, 0, 0, 0, 8, -1⟩ by kernel_rfl] at h
  exact h

theorem a_Propose (up : List Ces) (r : ByteArray) (hr : r = sRun) (t : ByteArray) (ht : t = sTick) : Cs gl n_control_Propose up [usM.iv, (Sta.mk r 24 4 4 4 0 (-1)).iv, .int .i64 10] (.tup [(Ac.mk t 10 4 8 (-1)).iv, .int .i64 0]) up := by
  subst hr
  subst ht
  have h := c_Propose (gl := gl) up usM ⟨sRun, 24, 4, 4, 4, 0, -1⟩ 10
  have e1 : (Sta.mk sRun 24 4 4 4 0 (-1)).err usM = 0 := by
    rw [staErr_run]
    decide +kernel
  unfold proposeR at h
  have hi : (Sta.mk sRun 24 4 4 4 0 (-1)).inv usM := ⟨⟨by decide, by decide, by decide, by decide⟩, by decide, by decide⟩
  rw [e1, show (orL [0, withinS 10 0 usM.wind] != 0) = false by decide, propose_run us_ok us_fea hi (by decide), show (Sta.mk sRun 24 4 4 4 0 (-1)).proposeX usM 10 = ⟨sTick, 10, 4, 8, -1⟩ by kernel_rfl] at h
  exact h
end Go.Proofs.YtkdlegfakefjgaaGreatDoor.Ix

/-
  Aw6: awake() of chapter 5 is true.
-/
namespace Go.Proofs.YtkdlegfakefjgaaGreatDoor.Ix
open Go.Proofs
set_option maxRecDepth 100000
set_option linter.unusedVariables false
set_option linter.unusedSimpArgs false
variable {gl : Nat → IV}

def sameIn (n k : Nat) (f g : Nat → Int) : Bool := bif (n : Int) != k then false else allB (fun i => f i == g i) n 0

theorem c_rSameInts (up : List Ces) (n k : Nat) (hn : n ≤ 10000000) (f g : Nat → Int) :
    Cs gl n_nacelleref01_SameInts up [.lst none 1 n fun i => [.int .i64 (f i)], .lst none 1 k fun i => [.int .i64 (g i)]] (.bool (sameIn n k f g)) up := by
  refine mk h_nacelleref01_SameInts rfl rfl ?_
  unfold sameIn
  cases q0 : ((n : Int) != k) with
  | true =>
    conv => whnf
    split
    rotate_left
    · rename_i h
      exact Bool.noConfusion ((q0).symm.trans h)
    rename_i hN
    clear hN
    conv => whnf
    exact ⟨rfl, rfl⟩
  | false =>
    have e : n = k := by have : (n : Int) = k := by simpa using q0
                         omega
    subst e
    conv => whnf
    split
    · rename_i h
      exact Bool.noConfusion ((q0).symm.trans h)
    rename_i hN
    clear hN
    conv => whnf
    refine .mk (α := {i : Nat // i ≤ n ∧ allB (fun i => f i == g i) n 0 = allB (fun i => f i == g i) (n - i) i}) (fun i => ⟨[(5, .int .i64 i.1), (1, .lst none 1 n fun i => [.int .i64 (g i)]), (0, .lst none 1 n fun i => [.int .i64 (f i)])], [], up⟩) (fun i => n - i.1) ⟨0, Nat.zero_le _, rfl⟩ ⟨?_, ?_, rfl, rfl⟩ ?_
    · exact ⟨leV_refl _, leV_refl _, leV_refl _, trivial⟩
    · exact trivial
    rintro ⟨i, hi, he⟩
    have hw : w64 ((i : Int) + 1) = ((i + 1 : Nat) : Int) := by rw [w64, wrap_in] <;> omega
    by_cases hlt : i < n
    · have q : decide ((i : Int) < (n : Int)) = true := decide_eq_true (by omega)
      rw [allB_step hlt] at he
      cases qe : (f i == g i) with
      | false =>
        rw [qe, Bool.false_and] at he
        have ne : (f i != g i) = true := by simpa using qe
        conv => whnf
        split
        rotate_left
        · rename_i h
          exact Bool.noConfusion ((q).symm.trans h)
        rename_i hN
        clear hN
        conv => whnf
        refine DRAW.seek ?_
        repeat (first | refine TRYD.take ?_ | refine TRYD.next ?_)
        conv => whnf
        split
        rotate_left
        · rename_i h
          exact Bool.noConfusion ((q).symm.trans h)
        rename_i hN
        clear hN
        conv => whnf
        split
        rotate_left
        · rename_i h
          exact Bool.noConfusion ((q).symm.trans h)
        rename_i hN
        clear hN
        conv => whnf
        split
        rotate_left
        · rename_i h
          exact Bool.noConfusion ((ne).symm.trans h)
        rename_i hN
        clear hN
        conv => whnf
        exact ⟨congrArg IV.bool he.symm, rfl⟩
      | true =>
        rw [qe, Bool.true_and] at he
        have ne : (f i != g i) = false := by simpa using qe
        conv => whnf
        split
        rotate_left
        · rename_i h
          exact Bool.noConfusion ((q).symm.trans h)
        rename_i hN
        clear hN
        conv => whnf
        refine DRAW.seek ?_
        repeat (first | refine TRYD.take ?_ | refine TRYD.next ?_)
        conv => whnf
        split
        rotate_left
        · rename_i h
          exact Bool.noConfusion ((q).symm.trans h)
        rename_i hN
        clear hN
        conv => whnf
        split
        rotate_left
        · rename_i h
          exact Bool.noConfusion ((q).symm.trans h)
        rename_i hN
        clear hN
        conv => whnf
        split
        · rename_i h
          exact Bool.noConfusion ((ne).symm.trans h)
        rename_i hN
        clear hN
        conv => whnf
        exact ⟨⟨i + 1, hlt, he⟩, ⟨⟨leV_int hw, leV_refl _, leV_refl _, trivial⟩, trivial, rfl, rfl⟩, (by show n - (i + 1) < n - i; omega)⟩
    · have q : decide ((i : Int) < (n : Int)) = false := decide_eq_false (by omega)
      have : i = n := by omega
      subst this
      rw [Nat.sub_self] at he
      conv => whnf
      split
      · rename_i h
        exact Bool.noConfusion ((q).symm.trans h)
      rename_i hN
      clear hN
      conv => whnf
      exact ⟨congrArg IV.bool he.symm, rfl⟩

theorem sameIn_refl (n : Nat) (f : Nat → Int) : sameIn n n f f = true := by
  unfold sameIn
  rw [show ((n : Int) != n) = false by simp, cond_false]
  have : ∀ n i, allB (fun i => f i == f i) n i = true := by
    intro n
    induction n with
    | zero => intro i; rfl
    | succ n ih => intro i; unfold allB; rw [ih, beq_self_eq_true]; rfl
  exact this n 0

theorem a_SameInts (up : List Ces) : Cs gl n_nacelleref01_SameInts up [.lst none 1 4 fun i => [.int .i64 (spd i)], .lst none 1 4 (litF 1 [.int .i64 0, .int .i64 0, .int .i64 4, .int .i64 14])] (.bool true) up := by
  have h := c_rSameInts (gl := gl) up 4 4 (by decide) spd spd
  rw [sameIn_refl] at h
  refine Comp.le (args' := [.lst none 1 4 fun i => [.int .i64 (spd i)], .lst none 1 4 fun i => [.int .i64 (spd i)]]) ?_ h
  refine ⟨leV_refl _, ⟨.inl rfl, rfl, rfl, fun i hi => ?_⟩, trivial⟩
  match i, hi with
  | 0, _ => rfl
  | 1, _ => rfl
  | 2, _ => rfl
  | 3, _ => rfl

def exText : ByteArray := ⟨#[115, 116, 97, 114, 116, 32, 48, 32, 48, 32, 48, 32, 45, 10, 116, 105, 99, 107, 32, 49, 48, 32, 48, 32, 48, 32, 45, 10, 116, 105, 99, 107, 32, 49, 48, 32, 48, 32, 48, 32, 45, 10, 116, 105, 99, 107, 32, 49, 48, 32, 48, 32, 48, 32, 45, 10]⟩
theorem itoa_0 : Go.Lib.itoa 0 = [48] := by
  rw [show (0 : Int) = ((0 : Nat) : Int) from rfl, Go.Lib.itoa_nonneg, Go.Lib.decDigits_one (by decide)]; rfl
theorem itoa_10 : Go.Lib.itoa 10 = [49, 48] := by
  rw [show (10 : Int) = ((10 : Nat) : Int) from rfl, Go.Lib.itoa_nonneg, Go.Lib.decDigits_two (by decide) (by decide)]; rfl

theorem beg_text : actsS begA 4 = exText.data.toList := by
  have l0 : (begA 0).line = [115, 116, 97, 114, 116, 32, 48, 32, 48, 32, 48, 32, 45, 10] := by
    show sStart.data.toList ++ (32 :: Go.Lib.itoa 0 ++ (32 :: Go.Lib.itoa 0 ++ (32 :: Go.Lib.itoa 0 ++ (32 :: Ac.blade _ ++ [10])))) = _
    rw [itoa_0]; rfl
  have l1 : ∀ i, (begA (i + 1)).line = [116, 105, 99, 107, 32, 49, 48, 32, 48, 32, 48, 32, 45, 10] := by
    intro i
    show sTick.data.toList ++ (32 :: Go.Lib.itoa 10 ++ (32 :: Go.Lib.itoa 0 ++ (32 :: Go.Lib.itoa 0 ++ (32 :: Ac.blade _ ++ [10])))) = _
    rw [itoa_0, itoa_10]; rfl
  show ((([] ++ (begA 0).line) ++ (begA 1).line) ++ (begA 2).line) ++ (begA 3).line = _
  rw [l0, l1 0, l1 1, l1 2]; rfl

theorem beg_acts : actsE 4 begA = 0 := by
  have : ∀ i, (begA i).checkE 100 100 100 = 0 := fun i => by
    rw [check_run]
    cases i with
    | zero => decide +kernel
    | succ i =>
      show (Ac.mk sTick 10 0 0 (-1)).checkX 100 100 100 = 0
      decide +kernel
  unfold actsE
  rw [show decide (((4 : Nat) : Int) > 1024) = false from rfl, cond_false, firstS_zero]
  exact fun j _ _ => this j

theorem a_Print (up : List Ces) (hk : gl g_control_kinds = kindsI) (hg : gl g_internal_strconv_uint64pow10 = powI) (x : ByteArray) (hx : x = exText) : Cs gl n_control_Print up [.lst none 5 4 fun i => (begA i).cs] (.tup [.str x, .int .i64 0]) up := by
  subst hx
  have h := c_Print (gl := gl) up hk hg 4 (by decide) begA
  rw [beg_acts, beg_text] at h
  exact h

def eqAc (a b : Ac) : Bool := eqS a.kind b.kind && (a.wind == b.wind && (a.pitch == b.pitch && (a.tor == b.tor && (a.stuck == b.stuck && true))))
theorem eqAc_refl (a : Ac) : eqAc a a = true := by
  unfold eqAc
  rw [eqS_iff.2 rfl]
  simp

/-- What is read behind each call. -/
def lvAw : List (Nat × List Nat) := [(23, [0, 1, 2, 3, 4, 5, 6, 7, 8, 9, 10, 11, 23]), (24, [0, 1, 2, 3, 4, 5, 6, 7, 8, 9, 10, 11, 23, 24]), (25, [0, 1, 2, 3, 4, 5, 6, 7, 8, 9, 10, 11, 25]), (30, [0, 1, 2, 3, 4, 5, 6, 7, 8, 9, 10, 11, 30]), (31, [0, 1, 2, 3, 4, 5, 6, 7, 8, 9, 10, 11, 30, 31]), (32, [0, 1, 2, 3, 4, 5, 6, 7, 8, 9, 10, 11, 32]), (36, [0, 1, 2, 3, 4, 5, 6, 7, 8, 9, 10, 11, 36]), (38, [0, 1, 2, 3, 4, 5, 6, 7, 8, 9, 10, 11, 38]), (42, [0, 1, 2, 3, 4, 5, 6, 7, 8, 9, 10, 11, 42]), (44, [0, 1, 2, 3, 4, 5, 6, 7, 8, 9, 10, 11, 44]), (49, [0, 1, 2, 3, 4, 5, 6, 7, 8, 9, 10, 11, 49]), (50, [0, 1, 2, 3, 4, 5, 6, 7, 8, 9, 10, 11, 50]), (55, [0, 1, 2, 3, 4, 5, 6, 7, 8, 9, 10, 11, 12, 13, 55]), (58, [0, 1, 2, 3, 4, 5, 6, 7, 8, 9, 10, 11, 12, 13, 58]), (62, [0, 1, 2, 3, 4, 5, 6, 7, 8, 9, 10, 11, 12, 13, 14, 15, 62]), (65, [0, 1, 2, 3, 4, 5, 6, 7, 8, 9, 10, 11, 12, 14, 15, 65]), (69, [0, 1, 2, 3, 4, 5, 6, 7, 8, 9, 10, 11, 12, 14, 15, 16, 17, 69]), (72, [0, 1, 2, 3, 4, 5, 6, 7, 8, 9, 10, 11, 12, 14, 15, 16, 17, 72]), (76, [0, 1, 2, 3, 4, 5, 6, 7, 8, 9, 10, 11, 12, 14, 15, 16, 17, 18, 19, 76]), (77, [0, 1, 2, 3, 4, 5, 6, 7, 8, 9, 10, 11, 12, 14, 15, 16, 17, 18, 19, 77]), (110, [0, 1, 6, 8, 9, 11, 14, 16, 18, 20, 107, 110]), (201, [0, 1, 6, 200, 201]), (204, [0, 200, 204])]
set_option maxHeartbeats 16000000 in
theorem c_awake (up : List Ces) (hk : gl g_control_kinds = kindsI) (hg : gl g_internal_strconv_uint64pow10 = powI) : Cs gl n_nacellelaw05_awake up [] (.bool true) up := by
  obtain ⟨r, hr⟩ : ∃ r, r = sRun := ⟨_, rfl⟩
  obtain ⟨z, hz⟩ : ∃ r, r = sStop := ⟨_, rfl⟩
  obtain ⟨t, ht⟩ : ∃ r, r = sTick := ⟨_, rfl⟩
  obtain ⟨x, hx⟩ : ∃ r, r = exText := ⟨_, rfl⟩
  obtain ⟨f, hf⟩ : ∃ f, f = stp z := ⟨_, rfl⟩
  have h1 := fun up => a_Replay (gl := gl) up hk r hr
  have h2 := fun up => a_Speeds (gl := gl) up hk
  have h3 := fun up => a_Stop (gl := gl) up r z hr hz
  have h4 := fun up => a_Peak (gl := gl) up r hr
  have h5 := fun up => a_Allowed (gl := gl) up hk sRun rfl sTick rfl
  have h6 := fun up => a_Next (gl := gl) up hk sRun rfl sTick rfl
  have h7 := fun up => a_Propose (gl := gl) up sRun rfl t ht
  have h8 := fun up => a_Print (gl := gl) up hk hg x hx
  have h9 := fun up => a_CheckStop (gl := gl) up r z hr hz
  rw [← hf] at h3 h9
  have n5 : ((f 2).speed != 22) = false := by rw [hf]; rfl
  have n6 : ((f 13).speed != 0) = false := by rw [hf]; rfl
  have n1 : (!eqSta (stA r) (stA sRun)) = false := by rw [hr, eqSta_refl]; rfl
  have n2 : (!eqSta (f 1) (stp sStop 1)) = false := by rw [hf, hz, eqSta_refl]; rfl
  have n3 : eqAc ⟨t, 10, 4, 8, -1⟩ ⟨sTick, 10, 4, 8, -1⟩ = true := by rw [ht, eqAc_refl]
  have n4 : eqS x exText = true := eqS_iff.2 hx
  clear hf hz hr ht hx
  refine mk h_nacellelaw05_awake rfl rfl ?_
  conv => whnf
  repeat first
    | (refine DRAW.seek ?_; repeat (first | refine TRYD.take ?_ | refine TRYD.next ?_); conv => whnf)
    | (refine HOLD.mk (by first | exact trivial | exact ⟨⟨rfl, rfl⟩, trivial⟩ | exact ⟨⟨rfl, rfl⟩, ⟨rfl, rfl⟩, trivial⟩) ?_; (conv => whnf))
    | (refine CALL0.cutBy lvAw _ _ _ _ _ (leL_refl _) (c_usual ..) rfl ?_; conv => whnf)
    | (refine CALL0.by (c_usual ..) rfl ?_; conv => whnf)
    | (refine CALLQ.mk _ _ _ (leL_refl _) (c_usual ..) rfl ?_; conv => whnf)
    | (refine CALL0.cutBy lvAw _ _ _ _ _ (leL_refl _) (c_begun ..) rfl ?_; conv => whnf)
    | (refine CALL0.by (c_begun ..) rfl ?_; conv => whnf)
    | (refine CALLQ.mk _ _ _ (leL_refl _) (c_begun ..) rfl ?_; conv => whnf)
    | (refine CALL0.cutBy lvAw _ _ _ _ _ (leL_refl _) (h1 ..) rfl ?_; conv => whnf)
    | (refine CALL0.by (h1 ..) rfl ?_; conv => whnf)
    | (refine CALLQ.mk _ _ _ (leL_refl _) (h1 ..) rfl ?_; conv => whnf)
    | (refine CALL0.cutBy lvAw _ _ _ _ _ (leL_refl _) (h2 ..) rfl ?_; conv => whnf)
    | (refine CALL0.by (h2 ..) rfl ?_; conv => whnf)
    | (refine CALLQ.mk _ _ _ (leL_refl _) (h2 ..) rfl ?_; conv => whnf)
    | (refine CALL0.cutBy lvAw _ _ _ _ _ (leL_refl _) (h3 ..) rfl ?_; conv => whnf)
    | (refine CALL0.by (h3 ..) rfl ?_; conv => whnf)
    | (refine CALLQ.mk _ _ _ (leL_refl _) (h3 ..) rfl ?_; conv => whnf)
    | (refine CALL0.cutBy lvAw _ _ _ _ _ (leL_refl _) (h4 ..) rfl ?_; conv => whnf)
    | (refine CALL0.by (h4 ..) rfl ?_; conv => whnf)
    | (refine CALLQ.mk _ _ _ (leL_refl _) (h4 ..) rfl ?_; conv => whnf)
    | (refine CALL0.cutBy lvAw _ _ _ _ _ (leL_refl _) (a_Table ..) rfl ?_; conv => whnf)
    | (refine CALL0.by (a_Table ..) rfl ?_; conv => whnf)
    | (refine CALLQ.mk _ _ _ (leL_refl _) (a_Table ..) rfl ?_; conv => whnf)
    | (refine CALL0.cutBy lvAw _ _ _ _ _ (leL_refl _) (h5 ..) rfl ?_; conv => whnf)
    | (refine CALL0.by (h5 ..) rfl ?_; conv => whnf)
    | (refine CALLQ.mk _ _ _ (leL_refl _) (h5 ..) rfl ?_; conv => whnf)
    | (refine CALL0.cutBy lvAw _ _ _ _ _ (leL_refl _) (h6 ..) rfl ?_; conv => whnf)
    | (refine CALL0.by (h6 ..) rfl ?_; conv => whnf)
    | (refine CALLQ.mk _ _ _ (leL_refl _) (h6 ..) rfl ?_; conv => whnf)
    | (refine CALL0.cutBy lvAw _ _ _ _ _ (leL_refl _) (h7 ..) rfl ?_; conv => whnf)
    | (refine CALL0.by (h7 ..) rfl ?_; conv => whnf)
    | (refine CALLQ.mk _ _ _ (leL_refl _) (h7 ..) rfl ?_; conv => whnf)
    | (refine CALL0.cutBy lvAw _ _ _ _ _ (leL_refl _) (h8 ..) rfl ?_; conv => whnf)
    | (refine CALL0.by (h8 ..) rfl ?_; conv => whnf)
    | (refine CALLQ.mk _ _ _ (leL_refl _) (h8 ..) rfl ?_; conv => whnf)
  split
  · rename_i h
    exact Bool.noConfusion ((n1).symm.trans h)
  rename_i hN
  clear hN
  conv => whnf
  repeat first
    | (refine DRAW.seek ?_; repeat (first | refine TRYD.take ?_ | refine TRYD.next ?_); conv => whnf)
    | (refine HOLD.mk (by first | exact trivial | exact ⟨⟨rfl, rfl⟩, trivial⟩ | exact ⟨⟨rfl, rfl⟩, ⟨rfl, rfl⟩, trivial⟩) ?_; (conv => whnf))
    | (refine CALL0.cutBy lvAw _ _ _ _ _ (leL_refl _) (a_SameInts ..) rfl ?_; conv => whnf)
    | (refine CALL0.by (a_SameInts ..) rfl ?_; conv => whnf)
    | (refine CALLQ.mk _ _ _ (leL_refl _) (a_SameInts ..) rfl ?_; conv => whnf)
  split
  · rename_i h
    exact Bool.noConfusion ((n2).symm.trans h)
  rename_i hN
  clear hN
  conv => whnf
  split
  · rename_i h
    exact Bool.noConfusion ((n5).symm.trans h)
  rename_i hN
  clear hN
  conv => whnf
  split
  · rename_i h
    exact Bool.noConfusion ((n6).symm.trans h)
  rename_i hN
  clear hN
  conv => whnf
  refine DRAW.seek ?_
  repeat (first | refine TRYD.take ?_ | refine TRYD.next ?_)
  conv => whnf
  split
  rotate_left
  · rename_i h
    exact Bool.noConfusion ((n3).symm.trans h)
  rename_i hN
  clear hN
  conv => whnf
  split
  rotate_left
  · rename_i h
    exact Bool.noConfusion ((n4).symm.trans h)
  rename_i hN
  clear hN
  conv => whnf
  repeat first
    | (refine DRAW.seek ?_; repeat (first | refine TRYD.take ?_ | refine TRYD.next ?_); conv => whnf)
    | (refine HOLD.mk (by first | exact trivial | exact ⟨⟨rfl, rfl⟩, trivial⟩ | exact ⟨⟨rfl, rfl⟩, ⟨rfl, rfl⟩, trivial⟩) ?_; (conv => whnf))
    | (refine CALL0.cutBy lvAw _ _ _ _ _ (leL_refl _) (c_usual ..) rfl ?_; conv => whnf)
    | (refine CALL0.by (c_usual ..) rfl ?_; conv => whnf)
    | (refine CALLQ.mk _ _ _ (leL_refl _) (c_usual ..) rfl ?_; conv => whnf)
    | (refine CALL0.cutBy lvAw _ _ _ _ _ (leL_refl _) (h9 ..) rfl ?_; conv => whnf)
    | (refine CALL0.by (h9 ..) rfl ?_; conv => whnf)
    | (refine CALLQ.mk _ _ _ (leL_refl _) (h9 ..) rfl ?_; conv => whnf)
  exact ⟨rfl, rfl⟩
end Go.Proofs.YtkdlegfakefjgaaGreatDoor.Ix

/-
  Ks0: what several laws of chapter 5 use: small machines, lists of acts, empty lists.
-/
namespace Go.Proofs.YtkdlegfakefjgaaGreatDoor.Ix
open Go.Proofs
set_option maxRecDepth 100000
set_option linter.unusedVariables false
set_option linter.unusedSimpArgs false
variable {gl : Nat → IV}

def Mc.smallB (m : Mc) : Bool := m.err != 0 || (decide (m.fea ≤ 20) && (decide (m.lim ≤ 100) && decide (w64 (10 * m.rate) ≥ m.fea)))

theorem c_rSmall (up : List Ces) (m : Mc) : Cs gl n_nacelleref05_Small up [m.iv] (.bool m.smallB) up := by
  refine mk h_nacelleref05_Small rfl rfl ?_
  unfold Mc.smallB
  cases q0 : (m.err != 0) with
  | true =>
    conv => whnf
    repeat first
      | (refine DRAW.seek ?_; repeat (first | refine TRYD.take ?_ | refine TRYD.next ?_); conv => whnf)
      | (refine HOLD.mk (by first | exact trivial | exact ⟨⟨rfl, rfl⟩, trivial⟩ | exact ⟨⟨rfl, rfl⟩, ⟨rfl, rfl⟩, trivial⟩) ?_; (conv => whnf))
      | (refine CALL0.by (c_rMachine ..) rfl ?_; conv => whnf)
      | (refine CALLQ.mk _ _ _ (leL_refl _) (c_rMachine ..) rfl ?_; conv => whnf)
    split
    rotate_left
    · rename_i h
      exact Bool.noConfusion ((q0).symm.trans h)
    rename_i hN
    clear hN
    conv => whnf
    exact ⟨rfl, rfl⟩
  | false =>
  cases q1 : decide (m.fea ≤ 20) with
  | false =>
    conv => whnf
    repeat first
      | (refine DRAW.seek ?_; repeat (first | refine TRYD.take ?_ | refine TRYD.next ?_); conv => whnf)
      | (refine HOLD.mk (by first | exact trivial | exact ⟨⟨rfl, rfl⟩, trivial⟩ | exact ⟨⟨rfl, rfl⟩, ⟨rfl, rfl⟩, trivial⟩) ?_; (conv => whnf))
      | (refine CALL0.by (c_rMachine ..) rfl ?_; conv => whnf)
      | (refine CALLQ.mk _ _ _ (leL_refl _) (c_rMachine ..) rfl ?_; conv => whnf)
    split
    · rename_i h
      exact Bool.noConfusion ((q0).symm.trans h)
    rename_i hN
    clear hN
    conv => whnf
    split
    · rename_i h
      exact Bool.noConfusion ((q1).symm.trans h)
    rename_i hN
    clear hN
    conv => whnf
    exact ⟨rfl, rfl⟩
  | true =>
  cases q2 : decide (m.lim ≤ 100) with
  | false =>
    conv => whnf
    repeat first
      | (refine DRAW.seek ?_; repeat (first | refine TRYD.take ?_ | refine TRYD.next ?_); conv => whnf)
      | (refine HOLD.mk (by first | exact trivial | exact ⟨⟨rfl, rfl⟩, trivial⟩ | exact ⟨⟨rfl, rfl⟩, ⟨rfl, rfl⟩, trivial⟩) ?_; (conv => whnf))
      | (refine CALL0.by (c_rMachine ..) rfl ?_; conv => whnf)
      | (refine CALLQ.mk _ _ _ (leL_refl _) (c_rMachine ..) rfl ?_; conv => whnf)
    split
    · rename_i h
      exact Bool.noConfusion ((q0).symm.trans h)
    rename_i hN
    clear hN
    conv => whnf
    split
    rotate_left
    · rename_i h
      exact Bool.noConfusion ((q1).symm.trans h)
    rename_i hN
    clear hN
    conv => whnf
    split
    · rename_i h
      exact Bool.noConfusion ((q2).symm.trans h)
    rename_i hN
    clear hN
    conv => whnf
    exact ⟨rfl, rfl⟩
  | true =>
    conv => whnf
    repeat first
      | (refine DRAW.seek ?_; repeat (first | refine TRYD.take ?_ | refine TRYD.next ?_); conv => whnf)
      | (refine HOLD.mk (by first | exact trivial | exact ⟨⟨rfl, rfl⟩, trivial⟩ | exact ⟨⟨rfl, rfl⟩, ⟨rfl, rfl⟩, trivial⟩) ?_; (conv => whnf))
      | (refine CALL0.by (c_rMachine ..) rfl ?_; conv => whnf)
      | (refine CALLQ.mk _ _ _ (leL_refl _) (c_rMachine ..) rfl ?_; conv => whnf)
    split
    · rename_i h
      exact Bool.noConfusion ((q0).symm.trans h)
    rename_i hN
    clear hN
    conv => whnf
    split
    rotate_left
    · rename_i h
      exact Bool.noConfusion ((q1).symm.trans h)
    rename_i hN
    clear hN
    conv => whnf
    split
    rotate_left
    · rename_i h
      exact Bool.noConfusion ((q2).symm.trans h)
    rename_i hN
    clear hN
    conv => whnf
    exact ⟨rfl, rfl⟩

theorem c_acts (up : List Ces) (n : Nat) (hn : n ≤ 10000000) (f : Nat → Ac) : Cs gl n_nacellelaw05_acts up [.lst none 5 n fun i => (f i).cs] (.lst (some 15) 5 n fun i => (f i).cs) up := by
  refine mk h_nacellelaw05_acts rfl rfl ?_
  conv => whnf
  let F : Nat → List IV := fun i => (f i).cs
  refine .mk (α := {i : Nat // i ≤ n}) (fun i => ⟨[(8, .int .i64 i.1), (7, .int .i64 n), (6, .lst none 5 n F), (3, .lst (some 15) 5 i.1 F)], [], up⟩) (fun i => n - i.1) ⟨0, Nat.zero_le _⟩ ⟨?_, trivial, rfl, rfl⟩ ?_
  · exact ⟨leV_refl _, leV_refl _, leV_refl _, rfl, trivial⟩
  rintro ⟨i, hi⟩
  have hw : w64 ((i : Int) + 1) = ((i + 1 : Nat) : Int) := by rw [w64, wrap_in] <;> omega
  by_cases hlt : i < n
  · have q : decide ((i : Int) < n) = true := decide_eq_true (by omega)
    conv => whnf
    split
    rotate_left
    · rename_i h
      exact Bool.noConfusion ((q).symm.trans h)
    rename_i hN
    clear hN
    conv => whnf
    split
    rotate_left
    · rename_i h
      exact Bool.noConfusion ((q).symm.trans h)
    rename_i hN
    clear hN
    conv => whnf
    split
    rotate_left
    · rename_i h
      have h' : decide (i + 1 ≤ 1073741824) = false := h
      simp at h' <;> omega
    conv => whnf
    refine ⟨⟨i + 1, hlt⟩, ⟨⟨leV_int hw, leV_refl _, leV_refl _, ⟨.inr rfl, rfl, rfl, fun j hj => ?_⟩, trivial⟩, trivial, rfl, rfl⟩, (by show n - (i + 1) < n - i; omega)⟩
    show (if j < i then F j else litF 5 (F i) (j - i)) = F j
    split
    · rfl
    · have : j = i := by have : j < i + 1 := hj; omega
      subst this; rw [Nat.sub_self]; rfl
  · have q : decide ((i : Int) < n) = false := decide_eq_false (by omega)
    have : i = n := by omega
    subst this
    conv => whnf
    split
    · rename_i h
      exact Bool.noConfusion ((q).symm.trans h)
    rename_i hN
    clear hN
    conv => whnf
    exact ⟨rfl, rfl⟩
end Go.Proofs.YtkdlegfakefjgaaGreatDoor.Ix

/-
  IxSh: the shapes of blades and flows, and the blades and flows that fit them.
-/
namespace Go.Proofs.YtkdlegfakefjgaaGreatDoor.Ix

abbrev intS : Shp := .int .i64
def intAt (l : List IV) (j : Nat) : Int := match l[j]? with
  | some (.int _ n) => n
  | _ => 0

theorem fit_ints : ∀ (n : Nat) (xs : List IV), FitL (List.replicate n (1, intS)) xs → xs = (List.range n).map fun j => IV.int .i64 (intAt xs j)
  | 0, xs, h => by simpa [FitL] using h
  | n + 1, xs, h => by
    simp only [List.replicate_succ, FitL] at h
    obtain ⟨ys, zs, rfl, hl, ⟨m, rfl, _⟩, h2⟩ := h
    have ih := fit_ints n zs h2
    rw [List.range_succ_eq_map, List.map_cons, List.map_map]
    refine List.cons_eq_cons.2 ⟨rfl, ?_⟩
    show zs = _
    rw [show ((fun j => IV.int .i64 (intAt ([IV.int .i64 m] ++ zs) j)) ∘ Nat.succ) = fun j => IV.int .i64 (intAt zs j) from by funext j; simp [intAt]]
    exact ih

end Go.Proofs.YtkdlegfakefjgaaGreatDoor.Ix

/-
  IxSh2: pairs, loads, whole numbers that fit their shapes.
-/
namespace Go.Proofs.YtkdlegfakefjgaaGreatDoor.Ix

theorem cells1 {ys : List IV} (h : Fit intS ys) : ∃ a, ys = [.int .i64 a] := by
  obtain ⟨m, rfl, _⟩ := h
  exact ⟨m, rfl⟩

end Go.Proofs.YtkdlegfakefjgaaGreatDoor.Ix

/-
  Kf1: what fits the shapes of machines, states and acts, and of lists of them.
-/
namespace Go.Proofs.YtkdlegfakefjgaaGreatDoor.Ix
open Go.Proofs
set_option linter.unusedVariables false
set_option linter.unusedSimpArgs false

abbrev machShp : Shp := .agg [(1, intS), (1, intS), (1, intS), (1, intS), (1, intS), (1, intS), (1, intS)]
abbrev actShp : Shp := .agg [(1, .str), (1, intS), (1, intS), (1, intS), (1, intS)]

theorem fit_mach {v : IV} (h : FitV machShp v) : ∃ m : Mc, v = m.iv := by
  obtain ⟨xs, rfl, h⟩ := h
  have := fit_ints 7 xs h
  exact ⟨⟨intAt xs 0, intAt xs 1, intAt xs 2, intAt xs 3, intAt xs 4, intAt xs 5, intAt xs 6⟩, by rw [this]; simp [intAt, List.range, List.range.loop, Mc.iv]⟩

theorem cells_act {xs : List IV} (h : Fit actShp xs) : ∃ a : Ac, xs = a.cs ∧ a.kind.size ≤ maxLen := by
  unfold actShp at h
  simp only [Fit, FitL] at h
  obtain ⟨y1, z1, rfl, _, h1, y2, z2, rfl, _, h2, y3, z3, rfl, _, h3, y4, z4, rfl, _, h4, y5, z5, rfl, _, h5, rfl⟩ := h
  obtain ⟨a, rfl, ha⟩ := h1
  obtain ⟨b, rfl⟩ := cells1 h2
  obtain ⟨c, rfl⟩ := cells1 h3
  obtain ⟨t, rfl⟩ := cells1 h4
  obtain ⟨u, rfl⟩ := cells1 h5
  exact ⟨⟨a, b, c, t, u⟩, rfl, ha⟩

noncomputable def acAt (f : Nat → List IV) (i : Nat) : Ac := open Classical in if h : ∃ s : Ac, f i = s.cs then h.choose else ⟨ByteArray.empty, 0, 0, 0, 0⟩
theorem acAt_eq {f : Nat → List IV} {i : Nat} (h : ∃ s : Ac, f i = s.cs) : f i = (acAt f i).cs := by
  unfold acAt
  rw [dif_pos h]
  exact h.choose_spec

theorem fit_acts {v : IV} (h : FitV (.slice 5 actShp) v) : ∃ (n : Nat) (f : Nat → Ac), n ≤ maxLen ∧ leV v (.lst none 5 n fun i => (f i).cs) := by
  obtain ⟨n, f, h, hn, hf⟩ := h
  obtain rfl := (List.cons.inj h).1
  refine ⟨n, acAt f, hn, .inl rfl, rfl, rfl, fun i hi => acAt_eq ?_⟩
  obtain ⟨_, hf⟩ := hf i hi
  obtain ⟨s, hs, _⟩ := cells_act hf
  exact ⟨s, hs⟩

end Go.Proofs.YtkdlegfakefjgaaGreatDoor.Ix

/-
  Ix33: the tables that a row lists as laid, as what is told of the variables.
-/
namespace Go.Proofs.YtkdlegfakefjgaaGreatDoor.Ix
open Go.RowKit
set_option linter.unusedVariables false

theorem laid_in {P : Program} {w : World} {n : String} {d : DataW Unit} : ∀ {l : List (String × DataW Unit)} {ps : List MemPlace}, DataW.LaidVars P w l ps → (n, d) ∈ l →
    ∃ g t cs fuel p, P.globalNamed n = some g ∧ (P.globals[g]?).map (·.type) = some t ∧ w.var? P n = some cs ∧ DataW.trod (fun _ => ()) P w 0 (fun _ => true) false fuel t cs.toList = some (d, p)
  | [], ps, _, hm => by cases hm
  | (m, e) :: r, ps, h, hm => by
    simp only [DataW.LaidVars] at h
    obtain ⟨g, t, cs, fuel, p, q, h1, h2, h3, h4, h5, _⟩ := h
    cases hm with
    | head => exact ⟨g, t, cs, fuel, p, h1, h2, h3, h4⟩
    | tail _ hm => exact laid_in h5 hm

theorem laid_tab {P : Program} {w : World} {laid : List (String × DataW Unit)} (h : laidMetH P laid w) (hp : (laid.all fun x => x.2.handleName?.isNone) = true) {n : String} {d : DataW Unit} {g t : Nat} (hm : (n, d) ∈ laid)
    (hg : P.globalNamed n = some g) (ht : (P.globals[g]?).map (·.type) = some t) {s : Shp} (hs : shpB P s t = true) (hf : flatS s = true) {vs : List Value} (hv : flatD d = vs) :
    (∀ j, w.cell? ⟨g, j, none⟩ = vs[j]?) ∧ ∃ arr el m, w.heap[g]? = some (.cells arr el m) ∧ arr.size = vs.length := by
  rw [MakeChecks.laidMetH_plain _ _ _ hp] at h
  obtain ⟨ps, h, _, _⟩ := h
  obtain ⟨g0, t0, cs0, f0, p0, hg0, ht0, hv0, hd0⟩ := laid_in h hm
  obtain rfl := Option.some.inj (hg.symm.trans hg0)
  obtain rfl := Option.some.inj (ht.symm.trans ht0)
  have hfl := flat_of_trod s _ (shp_ok _ _ hs) hf _ _ _ hd0
  have hcs : cs0.toList = vs := by rw [← hfl]; exact hv
  refine ⟨fun j => ?_, ?_⟩
  · have := World.var?_cell hg0 hv0 j
    rw [← hcs]
    simpa using this
  · unfold World.var? at hv0
    rw [hg0] at hv0
    simp only [Option.bind_some] at hv0
    split at hv0
    · rename_i arr el m he
      cases hv0
      exact ⟨_, _, _, he, by rw [← hcs]; simp⟩
    · cases hv0

/-- A row of integers at a variable's head. -/
theorem D_tab {I : Imm} {g : Nat} (xs : List IV) (vs : List Value) (hl : xs.length = vs.length) (hI : ∀ j v, vs[j]? = some v → I ⟨g, j, none⟩ = some v)
    (hx : ∀ (j : Nat) x, xs[j]? = some x → ∃ k z, x = .int k z ∧ vs[j]? = some (.int k z)) : D I (.vptr xs.length 1 (fun _ => xs) 0 0) (.pointer (some ⟨g, 0, none⟩)) := by
  have hat : ∀ j, j < xs.length → vs[j]? = some (vs.getD j undef) := fun j hj => by
    rw [List.getD_eq_getElem?_getD, List.getElem?_eq_getElem (by omega)]; rfl
  have := D.vptr (I := I) xs.length 1 (fun _ => xs) 0 0 g 0 (fun _ j => vs.getD j undef) (by decide) (fun _ _ => rfl)
    (fun i j hi hj => by
      have : i = 0 := by omega
      subst this
      simp only [Nat.zero_mul, Nat.zero_add]
      exact hI j _ (hat j hj))
    (fun i j hi hj => by
      obtain ⟨k, z, _, e⟩ := hx j _ (List.getElem?_eq_getElem hj)
      show (vs.getD j undef).oneCell' = true
      rw [List.getD_eq_getElem?_getD, e]; rfl)
    (fun i j x hi hxj => by
      obtain ⟨k, z, rfl, e⟩ := hx j x hxj
      show D I _ (vs.getD j undef)
      rw [List.getD_eq_getElem?_getD, e]; exact .int k z)
  simpa using this

/-- A row of values at a variable's head. -/
theorem D_tabG {I : Imm} {g : Nat} (xs : List IV) (vs : List Value) (hl : xs.length = vs.length) (hI : ∀ j v, vs[j]? = some v → I ⟨g, j, none⟩ = some v)
    (hx : ∀ (j : Nat) x, xs[j]? = some x → ∃ v, vs[j]? = some v ∧ v.oneCell' = true ∧ D I x v) : D I (.vptr xs.length 1 (fun _ => xs) 0 0) (.pointer (some ⟨g, 0, none⟩)) := by
  have hat : ∀ j, j < xs.length → vs[j]? = some (vs.getD j undef) := fun j hj => by
    rw [List.getD_eq_getElem?_getD, List.getElem?_eq_getElem (by omega)]; rfl
  have := D.vptr (I := I) xs.length 1 (fun _ => xs) 0 0 g 0 (fun _ j => vs.getD j undef) (by decide) (fun _ _ => rfl)
    (fun i j hi hj => by
      have : i = 0 := by omega
      subst this
      simp only [Nat.zero_mul, Nat.zero_add]
      exact hI j _ (hat j hj))
    (fun i j hi hj => by
      obtain ⟨v, e, h1, _⟩ := hx j _ (List.getElem?_eq_getElem hj)
      show (vs.getD j undef).oneCell' = true
      rw [List.getD_eq_getElem?_getD, e]; exact h1)
    (fun i j x hi hxj => by
      obtain ⟨v, e, _, h2⟩ := hx j x hxj
      show D I _ (vs.getD j undef)
      rw [List.getD_eq_getElem?_getD, e]; exact h2)
  simpa using this
end Go.Proofs.YtkdlegfakefjgaaGreatDoor.Ix

/-
  RowC: what all rows of the seat of chapter 5 share: the tables that are laid, the start that meets them.
-/
namespace Go.Proofs.YtkdlegfakefjgaaGreatDoor
open Go Go.ChangeShapes Go.WideShapes Go.ChangeAt Go.RowKit Go.Proofs.YtkdlegfakefjgaaGreatDoor.Ix
set_option linter.unusedVariables false

theorem own : ownKnob Tryz.prog.godebug = none := by kernel_rfl
theorem laidOut : laidOutB Tryz.prog = true := by kernel_rfl
theorem gKinds : Tryz.prog.globalNamed "nacelle/control.kinds" = some 0 := by kernel_rfl
theorem tKinds : (Tryz.prog.globals[0]?).map (·.type) = some 155 := by kernel_rfl
noncomputable abbrev laid4 : List (String × DataW Unit) := [("math/bits.deBruijn32tab", Rows.laid_math_bits_deBruijn32tab), ("math/bits.deBruijn64tab", Rows.laid_math_bits_deBruijn64tab), ("internal/strconv.uint64pow10", Rows.laid_internal_strconv_uint64pow10), ("nacelle/control.kinds", Rows.laid_nacelle_control_kinds)]
theorem plain4 : (laid4.all fun x => x.2.handleName?.isNone) = true := by kernel_rfl
abbrev kindsShp : Shp := .agg (List.replicate 6 (1, .str))
abbrev powShp : Shp := .agg (List.replicate 20 (1, .int .u64))
theorem shapeKinds : shpB Tryz.prog kindsShp 155 = true := by kernel_rfl

theorem door_met (os : Os) (args : Array Value) : laidMetH Tryz.prog laid4 ((World.doorLaid Tryz.prog 400 os).forCall (fun _ _ => 0) ⟨#[], args, []⟩).memory :=
  laidMetH_of_parts3 (fuel := 8) (laidMet_of_run' 8 (by kernel_rfl) (by kernel_rfl)) (by kernel_rfl) (by kernel_rfl)

/-- What is told of the package's variables. -/
noncomputable def gl4 : Nat → IV := fun g => match g with
  | 0 => kindsI
  | 1 => powI
  | _ => .dead

abbrev kindsV : List Value := [.string sBrake, .string sRepair, .string sRest, .string sStart, .string sStop, .string sTick]

theorem kinds_in {W : World} (h : laidMetH Tryz.prog laid4 W) : (∀ j, W.cell? ⟨0, j, none⟩ = kindsV[j]?) ∧ ∃ arr el m, W.heap[0]? = some (.cells arr el m) ∧ arr.size = kindsV.length :=
  laid_tab h plain4 (d := Rows.laid_nacelle_control_kinds) (by simp) gKinds tKinds shapeKinds rfl rfl
theorem tPow : (Tryz.prog.globals[1]?).map (·.type) = some 233 := by kernel_rfl
theorem shapePow : shpB Tryz.prog powShp 233 = true := by kernel_rfl
noncomputable abbrev powV : List Value := Go.Lib.pow10Tab.map fun z => .int .u64 z
theorem pow_in {W : World} (h : laidMetH Tryz.prog laid4 W) : (∀ j, W.cell? ⟨1, j, none⟩ = powV[j]?) ∧ ∃ arr el m, W.heap[1]? = some (.cells arr el m) ∧ arr.size = powV.length :=
  laid_tab h plain4 (d := Rows.laid_internal_strconv_uint64pow10) (by simp) gPow tPow shapePow (by decide) (by kernel_rfl)

theorem glo4 {W : World} (h : laidMetH Tryz.prog laid4 W) : ∀ g, D (fun a => W.cell? a) (gl4 g) (.pointer (some ⟨g, 0, none⟩)) := by
  intro g
  match g with
  | 0 =>
    refine D_tabG [.str sBrake, .str sRepair, .str sRest, .str sStart, .str sStop, .str sTick] kindsV rfl (fun j v hv => by rw [(kinds_in h).1]; exact hv) fun j x hx => ?_
    match j, hx with
    | 0, hx | 1, hx | 2, hx | 3, hx | 4, hx | 5, hx => cases hx; exact ⟨_, rfl, rfl, .str _⟩
    | _ + 6, hx => cases hx
  | 1 =>
    have := D_tab (I := fun a => W.cell? a) (g := 1) (Go.Lib.pow10Tab.map fun z => IV.int .u64 z) powV (by simp) (fun j v hv => by rw [(pow_in h).1]; exact hv) fun j x hx => by
      rw [List.getElem?_map, Option.map_eq_some_iff] at hx
      obtain ⟨z, hz, rfl⟩ := hx
      exact ⟨_, _, rfl, by rw [List.getElem?_map, hz]; rfl⟩
    rw [List.length_map] at this
    exact this
  | _ + 2 => exact .dead _

theorem gsz4 {W : World} (h : laidMetH Tryz.prog laid4 W) : Gsz gl4 W := by
  intro g e n f i j hg hn he
  match g, hg with
  | 0, hg =>
    have hg : kindsI = .vptr e n f i j := hg
    injection hg with h1 h2
    subst h1; subst h2
    obtain ⟨arr, el, m, k1, k2⟩ := (kinds_in h).2
    exact ⟨arr, el, m, k1, by rw [k2]; rfl⟩
  | 1, hg =>
    have hg : powI = .vptr e n f i j := hg
    injection hg with h1 h2
    subst h1; subst h2
    obtain ⟨arr, el, m, k1, k2⟩ := (pow_in h).2
    exact ⟨arr, el, m, k1, by rw [k2]; simp⟩
  | _ + 2, hg => cases hg
end Go.Proofs.YtkdlegfakefjgaaGreatDoor

/-
  Cr5: contracts of the reference's functions for acts: what is behind them, the rules, Next, Propose.
-/
namespace Go.Proofs.YtkdlegfakefjgaaGreatDoor.Ix
open Go.Proofs
set_option maxRecDepth 100000
set_option linter.unusedVariables false
set_option linter.unusedSimpArgs false
variable {gl : Nat → IV}

set_option maxHeartbeats 8000000 in
theorem c_rafter (up : List Ces) (m : Mc) (s : Sta) (a : Ac) (hm : m.ok) (hs : s.rng m) (ha : a.ok m) : Cs gl n_nacelleref05_after up [m.iv, s.iv, a.iv] (s.behindW m a).iv up := by
  have hw := hm.wind
  have ht := hm.tor
  have a1 := ha.wind
  have a2 := ha.pitch
  have a3 := ha.tor
  refine mk h_nacelleref05_after rfl rfl ?_
  unfold Sta.behindW
  cases q1 : eqS a.kind sStart with
  | true =>
    conv => whnf
    split
    rotate_left
    · rename_i h
      exact Bool.noConfusion ((q1).symm.trans h)
    rename_i hN
    clear hN
    conv => whnf
    exact ⟨rfl, rfl⟩
  | false =>
  cases q2 : eqS a.kind sTick with
  | true =>
    have h := fun up => c_rstepped (gl := gl) up m s a.wind a.pitch a.tor a.stuck
    rw [stepR_eq hm hs (by omega) a2 (by omega)] at h
    conv => whnf
    split
    · rename_i h
      exact Bool.noConfusion ((q1).symm.trans h)
    rename_i hN
    clear hN
    conv => whnf
    split
    rotate_left
    · rename_i h
      exact Bool.noConfusion ((q2).symm.trans h)
    rename_i hN
    clear hN
    conv => whnf
    repeat first
      | (refine DRAW.seek ?_; repeat (first | refine TRYD.take ?_ | refine TRYD.next ?_); conv => whnf)
      | (refine HOLD.mk (by first | exact trivial | exact ⟨⟨rfl, rfl⟩, trivial⟩ | exact ⟨⟨rfl, rfl⟩, ⟨rfl, rfl⟩, trivial⟩) ?_; (conv => whnf))
      | (refine CALL0.by (h ..) rfl ?_; conv => whnf)
      | (refine CALLQ.mk _ _ _ (leL_refl _) (h ..) rfl ?_; conv => whnf)
    exact ⟨rfl, rfl⟩
  | false =>
  cases q3 : eqS a.kind sStop with
  | true =>
    conv => whnf
    split
    · rename_i h
      exact Bool.noConfusion ((q1).symm.trans h)
    rename_i hN
    clear hN
    conv => whnf
    split
    · rename_i h
      exact Bool.noConfusion ((q2).symm.trans h)
    rename_i hN
    clear hN
    conv => whnf
    split
    rotate_left
    · rename_i h
      exact Bool.noConfusion ((q3).symm.trans h)
    rename_i hN
    clear hN
    conv => whnf
    exact ⟨rfl, rfl⟩
  | false =>
  cases q4 : eqS a.kind sBrake with
  | true =>
    have h := fun up => c_rBraked (gl := gl) up m s a.wind a.stuck hm hs (by omega)
    conv => whnf
    split
    · rename_i h
      exact Bool.noConfusion ((q1).symm.trans h)
    rename_i hN
    clear hN
    conv => whnf
    split
    · rename_i h
      exact Bool.noConfusion ((q2).symm.trans h)
    rename_i hN
    clear hN
    conv => whnf
    split
    · rename_i h
      exact Bool.noConfusion ((q3).symm.trans h)
    rename_i hN
    clear hN
    conv => whnf
    split
    rotate_left
    · rename_i h
      exact Bool.noConfusion ((q4).symm.trans h)
    rename_i hN
    clear hN
    conv => whnf
    repeat first
      | (refine DRAW.seek ?_; repeat (first | refine TRYD.take ?_ | refine TRYD.next ?_); conv => whnf)
      | (refine HOLD.mk (by first | exact trivial | exact ⟨⟨rfl, rfl⟩, trivial⟩ | exact ⟨⟨rfl, rfl⟩, ⟨rfl, rfl⟩, trivial⟩) ?_; (conv => whnf))
      | (refine CALL0.by (h ..) rfl ?_; conv => whnf)
      | (refine CALLQ.mk _ _ _ (leL_refl _) (h ..) rfl ?_; conv => whnf)
    exact ⟨rfl, rfl⟩
  | false =>
  cases q5 : eqS a.kind sRest with
  | true =>
    conv => whnf
    split
    · rename_i h
      exact Bool.noConfusion ((q1).symm.trans h)
    rename_i hN
    clear hN
    conv => whnf
    split
    · rename_i h
      exact Bool.noConfusion ((q2).symm.trans h)
    rename_i hN
    clear hN
    conv => whnf
    split
    · rename_i h
      exact Bool.noConfusion ((q3).symm.trans h)
    rename_i hN
    clear hN
    conv => whnf
    split
    · rename_i h
      exact Bool.noConfusion ((q4).symm.trans h)
    rename_i hN
    clear hN
    conv => whnf
    split
    rotate_left
    · rename_i h
      exact Bool.noConfusion ((q5).symm.trans h)
    rename_i hN
    clear hN
    conv => whnf
    exact ⟨rfl, rfl⟩
  | false =>
  cases q6 : eqS a.kind sRepair with
  | true =>
    conv => whnf
    split
    · rename_i h
      exact Bool.noConfusion ((q1).symm.trans h)
    rename_i hN
    clear hN
    conv => whnf
    split
    · rename_i h
      exact Bool.noConfusion ((q2).symm.trans h)
    rename_i hN
    clear hN
    conv => whnf
    split
    · rename_i h
      exact Bool.noConfusion ((q3).symm.trans h)
    rename_i hN
    clear hN
    conv => whnf
    split
    · rename_i h
      exact Bool.noConfusion ((q4).symm.trans h)
    rename_i hN
    clear hN
    conv => whnf
    split
    · rename_i h
      exact Bool.noConfusion ((q5).symm.trans h)
    rename_i hN
    clear hN
    conv => whnf
    split
    rotate_left
    · rename_i h
      exact Bool.noConfusion ((q6).symm.trans h)
    rename_i hN
    clear hN
    conv => whnf
    exact ⟨rfl, rfl⟩
  | false =>
    conv => whnf
    split
    · rename_i h
      exact Bool.noConfusion ((q1).symm.trans h)
    rename_i hN
    clear hN
    conv => whnf
    split
    · rename_i h
      exact Bool.noConfusion ((q2).symm.trans h)
    rename_i hN
    clear hN
    conv => whnf
    split
    · rename_i h
      exact Bool.noConfusion ((q3).symm.trans h)
    rename_i hN
    clear hN
    conv => whnf
    split
    · rename_i h
      exact Bool.noConfusion ((q4).symm.trans h)
    rename_i hN
    clear hN
    conv => whnf
    split
    · rename_i h
      exact Bool.noConfusion ((q5).symm.trans h)
    rename_i hN
    clear hN
    conv => whnf
    split
    · rename_i h
      exact Bool.noConfusion ((q6).symm.trans h)
    rename_i hN
    clear hN
    conv => whnf
    exact ⟨rfl, rfl⟩

theorem kind_nonempty {a : Ac} {m : Mc} (h : a.err m = 0) : eqS a.kind ByteArray.empty = false := by
  have h1 := (Ac.err_ok h).2.2.1
  have := idxS_mem (by decide) h1
  unfold kindsL at this
  simp only [List.mem_cons, List.not_mem_nil, or_false] at this
  cases q : eqS a.kind ByteArray.empty with
  | false => rfl
  | true =>
    have e := eqS_iff.1 q
    rw [e] at this
    exact absurd this (by decide)

theorem in_two (x k l : ByteArray) (h : eqS x l = false) : inK x k l = eqS x k := by rw [inK_eq, h, Bool.or_false]

theorem rule4_eq (s : Sta) (m : Mc) : s.rule4 m = (decide (atA m.fea [s.p0, s.p1, s.p2] < 3) || s.stuck != -1) := by
  unfold Sta.rule4
  congr 1
  simp only [atA]
  by_cases h0 : s.p0 = m.fea <;> by_cases h1 : s.p1 = m.fea <;> by_cases h2 : s.p2 = m.fea <;> simp [h0, h1, h2]

/-- The rules, told by the kinds' tests. -/
noncomputable abbrev Sta.ruleN (s : Sta) (m : Mc) (a : Ac) : Nat → Bool := s.ruleB m a fun k => (s.behindW m a).num m k

set_option maxHeartbeats 8000000 in
theorem c_rF1 (up : List Ces) (m : Mc) (s : Sta) (a : Ac) (hk : eqS a.kind ByteArray.empty = false) : Cs gl n_nacelleref05_Forbids up [m.iv, s.iv, a.iv, .int .i64 1] (.bool (s.ruleN m a 0)) up := by
  have e : s.ruleN m a 0 = ((eqS a.kind sStart || eqS a.kind sRepair) && (!eqS s.mode sIdle)) := by
    show (inK a.kind sStart sRepair && _) = _
    rw [inK_eq]
  rw [e]
  refine mk h_nacelleref05_Forbids rfl rfl ?_
  cases q1 : eqS a.kind sTick with
  | true =>
    have n1 : eqS a.kind sStart = false := kinds_ne q1 (by decide)
    have n2 : eqS a.kind sRepair = false := kinds_ne q1 (by decide)
    rw [n1, n2]
    conv => whnf
    split
    rotate_left
    · rename_i h
      exact Bool.noConfusion ((q1).symm.trans h)
    rename_i hN
    clear hN
    conv => whnf
    split
    · rename_i h
      exact Bool.noConfusion ((n1).symm.trans h)
    rename_i hN
    clear hN
    conv => whnf
    split
    · rename_i h
      exact Bool.noConfusion ((n2).symm.trans h)
    rename_i hN
    clear hN
    conv => whnf
    exact ⟨rfl, rfl⟩
  | false =>
  cases qb : eqS a.kind sBrake with
  | true =>
    have n1 : eqS a.kind sStart = false := kinds_ne qb (by decide)
    have n2 : eqS a.kind sRepair = false := kinds_ne qb (by decide)
    rw [n1, n2]
    conv => whnf
    split
    · rename_i h
      exact Bool.noConfusion ((q1).symm.trans h)
    rename_i hN
    clear hN
    conv => whnf
    split
    · rename_i h
      exact Bool.noConfusion ((n1).symm.trans h)
    rename_i hN
    clear hN
    conv => whnf
    split
    · rename_i h
      exact Bool.noConfusion ((n2).symm.trans h)
    rename_i hN
    clear hN
    conv => whnf
    exact ⟨rfl, rfl⟩
  | false =>
    cases n1 : eqS a.kind sStart with
    | true =>
      conv => whnf
      split
      · rename_i h
        exact Bool.noConfusion ((q1).symm.trans h)
      rename_i hN
      clear hN
      conv => whnf
      split
      rotate_left
      · rename_i h
        exact Bool.noConfusion ((n1).symm.trans h)
      rename_i hN
      clear hN
      conv => whnf
      exact ⟨rfl, rfl⟩
    | false =>
    cases n2 : eqS a.kind sRepair with
    | true =>
      conv => whnf
      split
      · rename_i h
        exact Bool.noConfusion ((q1).symm.trans h)
      rename_i hN
      clear hN
      conv => whnf
      split
      · rename_i h
        exact Bool.noConfusion ((n1).symm.trans h)
      rename_i hN
      clear hN
      conv => whnf
      split
      rotate_left
      · rename_i h
        exact Bool.noConfusion ((n2).symm.trans h)
      rename_i hN
      clear hN
      conv => whnf
      exact ⟨rfl, rfl⟩
    | false =>
      conv => whnf
      split
      · rename_i h
        exact Bool.noConfusion ((q1).symm.trans h)
      rename_i hN
      clear hN
      conv => whnf
      split
      · rename_i h
        exact Bool.noConfusion ((n1).symm.trans h)
      rename_i hN
      clear hN
      conv => whnf
      split
      · rename_i h
        exact Bool.noConfusion ((n2).symm.trans h)
      rename_i hN
      clear hN
      conv => whnf
      exact ⟨rfl, rfl⟩

set_option maxHeartbeats 8000000 in
theorem c_rF2 (up : List Ces) (m : Mc) (s : Sta) (a : Ac) (hk : eqS a.kind ByteArray.empty = false) : Cs gl n_nacelleref05_Forbids up [m.iv, s.iv, a.iv, .int .i64 2] (.bool (s.ruleN m a 1)) up := by
  have e : s.ruleN m a 1 = ((eqS a.kind sTick || eqS a.kind sStop) && (!eqS s.mode sRun)) := by
    show (inK a.kind sTick sStop && _) = _
    rw [inK_eq]
  rw [e]
  refine mk h_nacelleref05_Forbids rfl rfl ?_
  cases q1 : eqS a.kind sTick with
  | true =>
    conv => whnf
    split
    rotate_left
    · rename_i h
      exact Bool.noConfusion ((q1).symm.trans h)
    rename_i hN
    clear hN
    conv => whnf
    split
    rotate_left
    · rename_i h
      exact Bool.noConfusion ((q1).symm.trans h)
    rename_i hN
    clear hN
    conv => whnf
    exact ⟨rfl, rfl⟩
  | false =>
  cases qb : eqS a.kind sBrake with
  | true =>
    have n2 : eqS a.kind sStop = false := kinds_ne qb (by decide)
    rw [n2]
    conv => whnf
    split
    · rename_i h
      exact Bool.noConfusion ((q1).symm.trans h)
    rename_i hN
    clear hN
    conv => whnf
    split
    · rename_i h
      exact Bool.noConfusion ((q1).symm.trans h)
    rename_i hN
    clear hN
    conv => whnf
    split
    · rename_i h
      exact Bool.noConfusion ((n2).symm.trans h)
    rename_i hN
    clear hN
    conv => whnf
    exact ⟨rfl, rfl⟩
  | false =>
    cases n2 : eqS a.kind sStop with
    | true =>
      conv => whnf
      split
      · rename_i h
        exact Bool.noConfusion ((q1).symm.trans h)
      rename_i hN
      clear hN
      conv => whnf
      split
      · rename_i h
        exact Bool.noConfusion ((q1).symm.trans h)
      rename_i hN
      clear hN
      conv => whnf
      split
      rotate_left
      · rename_i h
        exact Bool.noConfusion ((n2).symm.trans h)
      rename_i hN
      clear hN
      conv => whnf
      exact ⟨rfl, rfl⟩
    | false =>
      conv => whnf
      split
      · rename_i h
        exact Bool.noConfusion ((q1).symm.trans h)
      rename_i hN
      clear hN
      conv => whnf
      split
      · rename_i h
        exact Bool.noConfusion ((q1).symm.trans h)
      rename_i hN
      clear hN
      conv => whnf
      split
      · rename_i h
        exact Bool.noConfusion ((n2).symm.trans h)
      rename_i hN
      clear hN
      conv => whnf
      exact ⟨rfl, rfl⟩

set_option maxHeartbeats 8000000 in
theorem c_rF3 (up : List Ces) (m : Mc) (s : Sta) (a : Ac) (hk : eqS a.kind ByteArray.empty = false) : Cs gl n_nacelleref05_Forbids up [m.iv, s.iv, a.iv, .int .i64 3] (.bool (s.ruleN m a 2)) up := by
  have e : s.ruleN m a 2 = ((eqS a.kind sBrake || eqS a.kind sRest) && (!eqS s.mode sStop)) := by
    show (inK a.kind sBrake sRest && _) = _
    rw [inK_eq]
  rw [e]
  refine mk h_nacelleref05_Forbids rfl rfl ?_
  cases q1 : eqS a.kind sTick with
  | true =>
    have n1 : eqS a.kind sBrake = false := kinds_ne q1 (by decide)
    have n2 : eqS a.kind sRest = false := kinds_ne q1 (by decide)
    rw [n1, n2]
    conv => whnf
    split
    rotate_left
    · rename_i h
      exact Bool.noConfusion ((q1).symm.trans h)
    rename_i hN
    clear hN
    conv => whnf
    split
    · rename_i h
      exact Bool.noConfusion ((n1).symm.trans h)
    rename_i hN
    clear hN
    conv => whnf
    split
    · rename_i h
      exact Bool.noConfusion ((n2).symm.trans h)
    rename_i hN
    clear hN
    conv => whnf
    exact ⟨rfl, rfl⟩
  | false =>
  cases qb : eqS a.kind sBrake with
  | true =>
    conv => whnf
    split
    · rename_i h
      exact Bool.noConfusion ((q1).symm.trans h)
    rename_i hN
    clear hN
    conv => whnf
    split
    rotate_left
    · rename_i h
      exact Bool.noConfusion ((qb).symm.trans h)
    rename_i hN
    clear hN
    conv => whnf
    exact ⟨rfl, rfl⟩
  | false =>
    cases n2 : eqS a.kind sRest with
    | true =>
      conv => whnf
      split
      · rename_i h
        exact Bool.noConfusion ((q1).symm.trans h)
      rename_i hN
      clear hN
      conv => whnf
      split
      · rename_i h
        exact Bool.noConfusion ((qb).symm.trans h)
      rename_i hN
      clear hN
      conv => whnf
      split
      rotate_left
      · rename_i h
        exact Bool.noConfusion ((n2).symm.trans h)
      rename_i hN
      clear hN
      conv => whnf
      exact ⟨rfl, rfl⟩
    | false =>
      conv => whnf
      split
      · rename_i h
        exact Bool.noConfusion ((q1).symm.trans h)
      rename_i hN
      clear hN
      conv => whnf
      split
      · rename_i h
        exact Bool.noConfusion ((qb).symm.trans h)
      rename_i hN
      clear hN
      conv => whnf
      split
      · rename_i h
        exact Bool.noConfusion ((n2).symm.trans h)
      rename_i hN
      clear hN
      conv => whnf
      exact ⟨rfl, rfl⟩

set_option maxHeartbeats 8000000 in
theorem c_rF4 (up : List Ces) (m : Mc) (s : Sta) (a : Ac) (hk : eqS a.kind ByteArray.empty = false) : Cs gl n_nacelleref05_Forbids up [m.iv, s.iv, a.iv, .int .i64 4] (.bool (s.ruleN m a 3)) up := by
  have e : s.ruleN m a 3 = (eqS a.kind sStart && s.rule4 m) := by
    show (inK a.kind sStart ByteArray.empty && _) = _
    rw [in_two _ _ _ hk]
  rw [e]
  refine mk h_nacelleref05_Forbids rfl rfl ?_
  cases q1 : eqS a.kind sTick with
  | true =>
    have n1 : eqS a.kind sStart = false := kinds_ne q1 (by decide)
    rw [n1]
    conv => whnf
    split
    rotate_left
    · rename_i h
      exact Bool.noConfusion ((q1).symm.trans h)
    rename_i hN
    clear hN
    conv => whnf
    split
    · rename_i h
      exact Bool.noConfusion ((n1).symm.trans h)
    rename_i hN
    clear hN
    conv => whnf
    exact ⟨rfl, rfl⟩
  | false =>
  cases qb : eqS a.kind sBrake with
  | true =>
    have n1 : eqS a.kind sStart = false := kinds_ne qb (by decide)
    rw [n1]
    conv => whnf
    split
    · rename_i h
      exact Bool.noConfusion ((q1).symm.trans h)
    rename_i hN
    clear hN
    conv => whnf
    split
    · rename_i h
      exact Bool.noConfusion ((n1).symm.trans h)
    rename_i hN
    clear hN
    conv => whnf
    exact ⟨rfl, rfl⟩
  | false =>
    cases n1 : eqS a.kind sStart with
    | true =>
      rw [rule4_eq]
      cases qf : decide (atA m.fea [s.p0, s.p1, s.p2] < 3) with
      | true =>
        conv => whnf
        split
        · rename_i h
          exact Bool.noConfusion ((q1).symm.trans h)
        rename_i hN
        clear hN
        conv => whnf
        split
        rotate_left
        · rename_i h
          exact Bool.noConfusion ((n1).symm.trans h)
        rename_i hN
        clear hN
        conv => whnf
        repeat first
          | (refine DRAW.seek ?_; repeat (first | refine TRYD.take ?_ | refine TRYD.next ?_); conv => whnf)
          | (refine HOLD.mk (by first | exact trivial | exact ⟨⟨rfl, rfl⟩, trivial⟩ | exact ⟨⟨rfl, rfl⟩, ⟨rfl, rfl⟩, trivial⟩) ?_; (conv => whnf))
          | (refine CALL0.by (c_rfeathered ..) rfl ?_; conv => whnf)
          | (refine CALLQ.mk _ _ _ (leL_refl _) (c_rfeathered ..) rfl ?_; conv => whnf)
        split
        rotate_left
        · rename_i h
          exact Bool.noConfusion ((qf).symm.trans h)
        rename_i hN
        clear hN
        conv => whnf
        exact ⟨rfl, rfl⟩
      | false =>
        conv => whnf
        split
        · rename_i h
          exact Bool.noConfusion ((q1).symm.trans h)
        rename_i hN
        clear hN
        conv => whnf
        split
        rotate_left
        · rename_i h
          exact Bool.noConfusion ((n1).symm.trans h)
        rename_i hN
        clear hN
        conv => whnf
        repeat first
          | (refine DRAW.seek ?_; repeat (first | refine TRYD.take ?_ | refine TRYD.next ?_); conv => whnf)
          | (refine HOLD.mk (by first | exact trivial | exact ⟨⟨rfl, rfl⟩, trivial⟩ | exact ⟨⟨rfl, rfl⟩, ⟨rfl, rfl⟩, trivial⟩) ?_; (conv => whnf))
          | (refine CALL0.by (c_rfeathered ..) rfl ?_; conv => whnf)
          | (refine CALLQ.mk _ _ _ (leL_refl _) (c_rfeathered ..) rfl ?_; conv => whnf)
        split
        · rename_i h
          exact Bool.noConfusion ((qf).symm.trans h)
        rename_i hN
        clear hN
        conv => whnf
        exact ⟨rfl, rfl⟩
    | false =>
      conv => whnf
      split
      · rename_i h
        exact Bool.noConfusion ((q1).symm.trans h)
      rename_i hN
      clear hN
      conv => whnf
      split
      · rename_i h
        exact Bool.noConfusion ((n1).symm.trans h)
      rename_i hN
      clear hN
      conv => whnf
      exact ⟨rfl, rfl⟩

set_option maxHeartbeats 8000000 in
theorem c_rF5 (up : List Ces) (m : Mc) (s : Sta) (a : Ac) (hk : eqS a.kind ByteArray.empty = false) : Cs gl n_nacelleref05_Forbids up [m.iv, s.iv, a.iv, .int .i64 5] (.bool (s.ruleN m a 4)) up := by
  have e : s.ruleN m a 4 = (eqS a.kind sRest && s.rule5 m) := by
    show (inK a.kind sRest ByteArray.empty && _) = _
    rw [in_two _ _ _ hk]
  rw [e]
  refine mk h_nacelleref05_Forbids rfl rfl ?_
  cases q1 : eqS a.kind sTick with
  | true =>
    have n1 : eqS a.kind sRest = false := kinds_ne q1 (by decide)
    rw [n1]
    conv => whnf
    split
    rotate_left
    · rename_i h
      exact Bool.noConfusion ((q1).symm.trans h)
    rename_i hN
    clear hN
    conv => whnf
    split
    · rename_i h
      exact Bool.noConfusion ((n1).symm.trans h)
    rename_i hN
    clear hN
    conv => whnf
    exact ⟨rfl, rfl⟩
  | false =>
  cases qb : eqS a.kind sBrake with
  | true =>
    have n1 : eqS a.kind sRest = false := kinds_ne qb (by decide)
    rw [n1]
    conv => whnf
    split
    · rename_i h
      exact Bool.noConfusion ((q1).symm.trans h)
    rename_i hN
    clear hN
    conv => whnf
    split
    · rename_i h
      exact Bool.noConfusion ((n1).symm.trans h)
    rename_i hN
    clear hN
    conv => whnf
    exact ⟨rfl, rfl⟩
  | false =>
    cases n1 : eqS a.kind sRest with
    | true =>
      unfold Sta.rule5
      cases qf : (s.speed != 0) with
      | true =>
        conv => whnf
        split
        · rename_i h
          exact Bool.noConfusion ((q1).symm.trans h)
        rename_i hN
        clear hN
        conv => whnf
        split
        rotate_left
        · rename_i h
          exact Bool.noConfusion ((n1).symm.trans h)
        rename_i hN
        clear hN
        conv => whnf
        split
        rotate_left
        · rename_i h
          exact Bool.noConfusion ((qf).symm.trans h)
        rename_i hN
        clear hN
        conv => whnf
        exact ⟨rfl, rfl⟩
      | false =>
        conv => whnf
        split
        · rename_i h
          exact Bool.noConfusion ((q1).symm.trans h)
        rename_i hN
        clear hN
        conv => whnf
        split
        rotate_left
        · rename_i h
          exact Bool.noConfusion ((n1).symm.trans h)
        rename_i hN
        clear hN
        conv => whnf
        split
        · rename_i h
          exact Bool.noConfusion ((qf).symm.trans h)
        rename_i hN
        clear hN
        conv => whnf
        repeat first
          | (refine DRAW.seek ?_; repeat (first | refine TRYD.take ?_ | refine TRYD.next ?_); conv => whnf)
          | (refine HOLD.mk (by first | exact trivial | exact ⟨⟨rfl, rfl⟩, trivial⟩ | exact ⟨⟨rfl, rfl⟩, ⟨rfl, rfl⟩, trivial⟩) ?_; (conv => whnf))
          | (refine CALL0.by (c_rfeathered ..) rfl ?_; conv => whnf)
          | (refine CALLQ.mk _ _ _ (leL_refl _) (c_rfeathered ..) rfl ?_; conv => whnf)
        exact ⟨rfl, rfl⟩
    | false =>
      conv => whnf
      split
      · rename_i h
        exact Bool.noConfusion ((q1).symm.trans h)
      rename_i hN
      clear hN
      conv => whnf
      split
      · rename_i h
        exact Bool.noConfusion ((n1).symm.trans h)
      rename_i hN
      clear hN
      conv => whnf
      exact ⟨rfl, rfl⟩

set_option maxHeartbeats 8000000 in
theorem c_rF6 (up : List Ces) (m : Mc) (s : Sta) (a : Ac) (hk : eqS a.kind ByteArray.empty = false) : Cs gl n_nacelleref05_Forbids up [m.iv, s.iv, a.iv, .int .i64 6] (.bool (s.ruleN m a 5)) up := by
  have e : s.ruleN m a 5 = ((eqS a.kind sTick || eqS a.kind sBrake) && s.rule6 a) := by
    show (inK a.kind sTick sBrake && _) = _
    rw [inK_eq]
  rw [e]
  refine mk h_nacelleref05_Forbids rfl rfl ?_
  cases q1 : eqS a.kind sTick with
  | true =>
    unfold Sta.rule6
    cases qa : (a.stuck != -1) with
    | false =>
      conv => whnf
      split
      rotate_left
      · rename_i h
        exact Bool.noConfusion ((q1).symm.trans h)
      rename_i hN
      clear hN
      conv => whnf
      split
      · rename_i h
        exact Bool.noConfusion ((qa).symm.trans h)
      rename_i hN
      clear hN
      conv => whnf
      exact ⟨rfl, rfl⟩
    | true =>
    cases qs : (s.stuck != -1) with
    | false =>
      conv => whnf
      split
      rotate_left
      · rename_i h
        exact Bool.noConfusion ((q1).symm.trans h)
      rename_i hN
      clear hN
      conv => whnf
      split
      rotate_left
      · rename_i h
        exact Bool.noConfusion ((qa).symm.trans h)
      rename_i hN
      clear hN
      conv => whnf
      split
      · rename_i h
        exact Bool.noConfusion ((qs).symm.trans h)
      rename_i hN
      clear hN
      conv => whnf
      exact ⟨rfl, rfl⟩
    | true =>
      conv => whnf
      split
      rotate_left
      · rename_i h
        exact Bool.noConfusion ((q1).symm.trans h)
      rename_i hN
      clear hN
      conv => whnf
      split
      rotate_left
      · rename_i h
        exact Bool.noConfusion ((qa).symm.trans h)
      rename_i hN
      clear hN
      conv => whnf
      split
      rotate_left
      · rename_i h
        exact Bool.noConfusion ((qs).symm.trans h)
      rename_i hN
      clear hN
      conv => whnf
      exact ⟨rfl, rfl⟩
  | false =>
  cases qb : eqS a.kind sBrake with
  | true =>
    unfold Sta.rule6
    cases qa : (a.stuck != -1) with
    | false =>
      conv => whnf
      split
      · rename_i h
        exact Bool.noConfusion ((q1).symm.trans h)
      rename_i hN
      clear hN
      conv => whnf
      split
      rotate_left
      · rename_i h
        exact Bool.noConfusion ((qb).symm.trans h)
      rename_i hN
      clear hN
      conv => whnf
      split
      · rename_i h
        exact Bool.noConfusion ((qa).symm.trans h)
      rename_i hN
      clear hN
      conv => whnf
      exact ⟨rfl, rfl⟩
    | true =>
    cases qs : (s.stuck != -1) with
    | false =>
      conv => whnf
      split
      · rename_i h
        exact Bool.noConfusion ((q1).symm.trans h)
      rename_i hN
      clear hN
      conv => whnf
      split
      rotate_left
      · rename_i h
        exact Bool.noConfusion ((qb).symm.trans h)
      rename_i hN
      clear hN
      conv => whnf
      split
      rotate_left
      · rename_i h
        exact Bool.noConfusion ((qa).symm.trans h)
      rename_i hN
      clear hN
      conv => whnf
      split
      · rename_i h
        exact Bool.noConfusion ((qs).symm.trans h)
      rename_i hN
      clear hN
      conv => whnf
      exact ⟨rfl, rfl⟩
    | true =>
      conv => whnf
      split
      · rename_i h
        exact Bool.noConfusion ((q1).symm.trans h)
      rename_i hN
      clear hN
      conv => whnf
      split
      rotate_left
      · rename_i h
        exact Bool.noConfusion ((qb).symm.trans h)
      rename_i hN
      clear hN
      conv => whnf
      split
      rotate_left
      · rename_i h
        exact Bool.noConfusion ((qa).symm.trans h)
      rename_i hN
      clear hN
      conv => whnf
      split
      rotate_left
      · rename_i h
        exact Bool.noConfusion ((qs).symm.trans h)
      rename_i hN
      clear hN
      conv => whnf
      exact ⟨rfl, rfl⟩
  | false =>
    conv => whnf
    split
    · rename_i h
      exact Bool.noConfusion ((q1).symm.trans h)
    rename_i hN
    clear hN
    conv => whnf
    split
    · rename_i h
      exact Bool.noConfusion ((qb).symm.trans h)
    rename_i hN
    clear hN
    conv => whnf
    exact ⟨rfl, rfl⟩

set_option maxHeartbeats 8000000 in
theorem c_rF7 (up : List Ces) (m : Mc) (s : Sta) (a : Ac) (hk : eqS a.kind ByteArray.empty = false) (hm : m.ok) (hs : s.rng m) (ha : a.ok m) : Cs gl n_nacelleref05_Forbids up [m.iv, s.iv, a.iv, .int .i64 7] (.bool (s.ruleN m a 6)) up := by
  have e : s.ruleN m a 6 = ((eqS a.kind sTick || eqS a.kind sBrake) && s.rule7 m a fun k => (s.behindW m a).num m k) := by
    show (inK a.kind sTick sBrake && _) = _
    rw [inK_eq]
  rw [e]
  refine mk h_nacelleref05_Forbids rfl rfl ?_
  cases q1 : eqS a.kind sTick with
  | true =>
    unfold Sta.rule7
    rw [q1]
    have ha7 := fun up => c_rafter (gl := gl) up m s a hm hs ha
    cases qf : decide ((s.behindW m a).speed > m.lim) with
    | true =>
      conv => whnf
      split
      rotate_left
      · rename_i h
        exact Bool.noConfusion ((q1).symm.trans h)
      rename_i hN
      clear hN
      conv => whnf
      repeat first
        | (refine DRAW.seek ?_; repeat (first | refine TRYD.take ?_ | refine TRYD.next ?_); conv => whnf)
        | (refine HOLD.mk (by first | exact trivial | exact ⟨⟨rfl, rfl⟩, trivial⟩ | exact ⟨⟨rfl, rfl⟩, ⟨rfl, rfl⟩, trivial⟩) ?_; (conv => whnf))
        | (refine CALL0.by (ha7 ..) rfl ?_; conv => whnf)
        | (refine CALLQ.mk _ _ _ (leL_refl _) (ha7 ..) rfl ?_; conv => whnf)
      split
      rotate_left
      · rename_i h
        exact Bool.noConfusion ((qf).symm.trans h)
      rename_i hN
      clear hN
      conv => whnf
      exact ⟨rfl, rfl⟩
    | false =>
      have hsp : (s.behindW m a).speed ≤ m.lim := by have := of_decide_eq_false qf; omega
      have hlim := hm.lim
      have hS := fun up => c_rSafe (gl := gl) up m (s.behindW m a) hm (tick_rng hm hs ha q1 hsp) (by omega)
      conv => whnf
      split
      rotate_left
      · rename_i h
        exact Bool.noConfusion ((q1).symm.trans h)
      rename_i hN
      clear hN
      conv => whnf
      repeat first
        | (refine DRAW.seek ?_; repeat (first | refine TRYD.take ?_ | refine TRYD.next ?_); conv => whnf)
        | (refine HOLD.mk (by first | exact trivial | exact ⟨⟨rfl, rfl⟩, trivial⟩ | exact ⟨⟨rfl, rfl⟩, ⟨rfl, rfl⟩, trivial⟩) ?_; (conv => whnf))
        | (refine CALL0.by (ha7 ..) rfl ?_; conv => whnf)
        | (refine CALLQ.mk _ _ _ (leL_refl _) (ha7 ..) rfl ?_; conv => whnf)
      split
      · rename_i h
        exact Bool.noConfusion ((qf).symm.trans h)
      rename_i hN
      clear hN
      conv => whnf
      split
      rotate_left
      · rename_i h
        exact Bool.noConfusion ((q1).symm.trans h)
      rename_i hN
      clear hN
      conv => whnf
      repeat first
        | (refine DRAW.seek ?_; repeat (first | refine TRYD.take ?_ | refine TRYD.next ?_); conv => whnf)
        | (refine HOLD.mk (by first | exact trivial | exact ⟨⟨rfl, rfl⟩, trivial⟩ | exact ⟨⟨rfl, rfl⟩, ⟨rfl, rfl⟩, trivial⟩) ?_; (conv => whnf))
        | (refine CALL0.by (hS ..) rfl ?_; conv => whnf)
        | (refine CALLQ.mk _ _ _ (leL_refl _) (hS ..) rfl ?_; conv => whnf)
      exact ⟨rfl, rfl⟩
  | false =>
  cases qb : eqS a.kind sBrake with
  | true =>
    unfold Sta.rule7
    rw [q1]
    have ha7 := fun up => c_rafter (gl := gl) up m s a hm hs ha
    cases qf : decide ((s.behindW m a).speed > m.lim) with
    | true =>
      conv => whnf
      split
      · rename_i h
        exact Bool.noConfusion ((q1).symm.trans h)
      rename_i hN
      clear hN
      conv => whnf
      repeat first
        | (refine DRAW.seek ?_; repeat (first | refine TRYD.take ?_ | refine TRYD.next ?_); conv => whnf)
        | (refine HOLD.mk (by first | exact trivial | exact ⟨⟨rfl, rfl⟩, trivial⟩ | exact ⟨⟨rfl, rfl⟩, ⟨rfl, rfl⟩, trivial⟩) ?_; (conv => whnf))
        | (refine CALL0.by (ha7 ..) rfl ?_; conv => whnf)
        | (refine CALLQ.mk _ _ _ (leL_refl _) (ha7 ..) rfl ?_; conv => whnf)
      split
      rotate_left
      · rename_i h
        exact Bool.noConfusion ((qb).symm.trans h)
      rename_i hN
      clear hN
      conv => whnf
      split
      rotate_left
      · rename_i h
        exact Bool.noConfusion ((qf).symm.trans h)
      rename_i hN
      clear hN
      conv => whnf
      exact ⟨rfl, rfl⟩
    | false =>
      conv => whnf
      split
      · rename_i h
        exact Bool.noConfusion ((q1).symm.trans h)
      rename_i hN
      clear hN
      conv => whnf
      repeat first
        | (refine DRAW.seek ?_; repeat (first | refine TRYD.take ?_ | refine TRYD.next ?_); conv => whnf)
        | (refine HOLD.mk (by first | exact trivial | exact ⟨⟨rfl, rfl⟩, trivial⟩ | exact ⟨⟨rfl, rfl⟩, ⟨rfl, rfl⟩, trivial⟩) ?_; (conv => whnf))
        | (refine CALL0.by (ha7 ..) rfl ?_; conv => whnf)
        | (refine CALLQ.mk _ _ _ (leL_refl _) (ha7 ..) rfl ?_; conv => whnf)
      split
      rotate_left
      · rename_i h
        exact Bool.noConfusion ((qb).symm.trans h)
      rename_i hN
      clear hN
      conv => whnf
      split
      · rename_i h
        exact Bool.noConfusion ((qf).symm.trans h)
      rename_i hN
      clear hN
      conv => whnf
      split
      · rename_i h
        exact Bool.noConfusion ((q1).symm.trans h)
      rename_i hN
      clear hN
      conv => whnf
      exact ⟨rfl, rfl⟩
  | false =>
    have ha7 := fun up => c_rafter (gl := gl) up m s a hm hs ha
    conv => whnf
    split
    · rename_i h
      exact Bool.noConfusion ((q1).symm.trans h)
    rename_i hN
    clear hN
    conv => whnf
    repeat first
      | (refine DRAW.seek ?_; repeat (first | refine TRYD.take ?_ | refine TRYD.next ?_); conv => whnf)
      | (refine HOLD.mk (by first | exact trivial | exact ⟨⟨rfl, rfl⟩, trivial⟩ | exact ⟨⟨rfl, rfl⟩, ⟨rfl, rfl⟩, trivial⟩) ?_; (conv => whnf))
      | (refine CALL0.by (ha7 ..) rfl ?_; conv => whnf)
      | (refine CALLQ.mk _ _ _ (leL_refl _) (ha7 ..) rfl ?_; conv => whnf)
    split
    · rename_i h
      exact Bool.noConfusion ((qb).symm.trans h)
    rename_i hN
    clear hN
    conv => whnf
    split
    · rename_i h
      exact Bool.noConfusion ((q1).symm.trans h)
    rename_i hN
    clear hN
    conv => whnf
    exact ⟨rfl, rfl⟩


theorem c_rForbids (up : List Ces) (m : Mc) (s : Sta) (a : Ac) (hm : m.ok) (hs : s.rng m) (ha : a.ok m) (hk : eqS a.kind ByteArray.empty = false) (k : Nat) (h : k < 7) :
    Cs gl n_nacelleref05_Forbids up [m.iv, s.iv, a.iv, .int .i64 ((k : Int) + 1)] (.bool (s.ruleN m a k)) up := by
  obtain rfl | rfl | rfl | rfl | rfl | rfl | rfl : k = 0 ∨ k = 1 ∨ k = 2 ∨ k = 3 ∨ k = 4 ∨ k = 5 ∨ k = 6 := by omega
  · exact c_rF1 up m s a hk
  · exact c_rF2 up m s a hk
  · exact c_rF3 up m s a hk
  · exact c_rF4 up m s a hk
  · exact c_rF5 up m s a hk
  · exact c_rF6 up m s a hk
  · exact c_rF7 up m s a hk hm hs ha

theorem c_rAllowed (up : List Ces) (m : Mc) (s : Sta) (a : Ac) (hm : m.ok) (hs : s.rng m) (ha : a.ok m) (hk : eqS a.kind ByteArray.empty = false) : Cs gl n_nacelleref05_Allowed up [m.iv, s.iv, a.iv] (.int .i64 (s.allowedN m a)) up := by
  refine mk h_nacelleref05_Allowed rfl rfl ?_
  have hF := fun up k h => c_rForbids (gl := gl) up m s a hm hs ha hk k h
  have e : s.allowedN m a = firstT (s.ruleN m a) 7 0 := rfl
  rw [e]
  clear e
  generalize s.ruleN m a = f at hF
  conv => whnf
  refine .mk (α := {k : Nat // k ≤ 7 ∧ firstT f 7 0 = firstT f (7 - k) k}) (fun k => ⟨[(7, .int .i64 ((k.1 : Int) + 1)), (5, .ptr 0 5 0), (4, .ptr 0 4 0), (3, .ptr 0 3 0)], [(5, [.str a.kind, .int .i64 a.wind, .int .i64 a.pitch, .int .i64 a.tor, .int .i64 a.stuck]), (4, s.cs), (3, m.cs)], up⟩) (fun k => 7 - k.1) ⟨0, Nat.zero_le _, rfl⟩ ⟨?_, ?_, rfl, rfl⟩ ?_
  · exact ⟨leV_refl _, leV_refl _, leV_refl _, leV_refl _, trivial⟩
  · exact ⟨leL_refl _, leL_refl _, leL_refl _, trivial⟩
  rintro ⟨k, hk7, he⟩
  have hw : w64 ((k : Int) + 1 + 1) = ((k + 1 : Nat) : Int) + 1 := by rw [w64, wrap_in] <;> omega
  by_cases hlt : k < 7
  · have q : decide ((k : Int) + 1 ≤ 7) = true := decide_eq_true (by omega)
    have hf := fun up => hF up k hlt
    rw [show 7 - k = (7 - (k + 1)) + 1 by omega] at he
    cases qf : f k with
    | true =>
      rw [qf] at hf
      rw [firstT_yes qf] at he
      conv => whnf
      split
      rotate_left
      · rename_i h
        exact Bool.noConfusion ((q).symm.trans h)
      rename_i hN
      clear hN
      conv => whnf
      repeat first
        | (refine DRAW.seek ?_; repeat (first | refine TRYD.take ?_ | refine TRYD.next ?_); conv => whnf)
        | (refine HOLD.mk (by first | exact trivial | exact ⟨⟨rfl, rfl⟩, trivial⟩ | exact ⟨⟨rfl, rfl⟩, ⟨rfl, rfl⟩, trivial⟩) ?_; (conv => whnf))
        | (refine CALL0.by (hf ..) rfl ?_; conv => whnf)
        | (refine CALLQ.mk _ _ _ (leL_refl _) (hf ..) rfl ?_; conv => whnf)
      refine ⟨?_, rfl⟩
      show IV.int .i64 ((k : Int) + 1) = _
      rw [he]
      rfl
    | false =>
      rw [qf] at hf
      rw [firstT_no qf] at he
      conv => whnf
      split
      rotate_left
      · rename_i h
        exact Bool.noConfusion ((q).symm.trans h)
      rename_i hN
      clear hN
      conv => whnf
      repeat first
        | (refine DRAW.seek ?_; repeat (first | refine TRYD.take ?_ | refine TRYD.next ?_); conv => whnf)
        | (refine HOLD.mk (by first | exact trivial | exact ⟨⟨rfl, rfl⟩, trivial⟩ | exact ⟨⟨rfl, rfl⟩, ⟨rfl, rfl⟩, trivial⟩) ?_; (conv => whnf))
        | (refine CALL0.by (hf ..) rfl ?_; conv => whnf)
        | (refine CALLQ.mk _ _ _ (leL_refl _) (hf ..) rfl ?_; conv => whnf)
      exact ⟨⟨k + 1, hlt, he⟩, ⟨⟨leV_int hw, leV_refl _, leV_refl _, leV_refl _, trivial⟩, ⟨leL_refl _, leL_refl _, leL_refl _, trivial⟩, rfl, rfl⟩, (by show 7 - (k + 1) < 7 - k; omega)⟩
  · have q : decide ((k : Int) + 1 ≤ 7) = false := decide_eq_false (by omega)
    have : k = 7 := by omega
    subst this
    conv => whnf
    exact ⟨congrArg (IV.int .i64) he.symm, rfl⟩

theorem c_rNext (up : List Ces) (m : Mc) (s : Sta) (a : Ac) (hm : m.ok) (hs : s.rng m) (ha : a.ok m) (hk : eqS a.kind ByteArray.empty = false) :
    Cs gl n_nacelleref05_Next up [m.iv, s.iv, a.iv] (bif s.allowedN m a != 0 then .tup [Sta.zero.iv, .int .i64 19] else .tup [(s.behindW m a).iv, .int .i64 0]) up := by
  have hA := fun up => c_rAllowed (gl := gl) up m s a hm hs ha hk
  have hB := fun up => c_rafter (gl := gl) up m s a hm hs ha
  refine mk h_nacelleref05_Next rfl rfl ?_
  cases q : (s.allowedN m a != 0) with
  | true =>
    conv => whnf
    repeat first
      | (refine DRAW.seek ?_; repeat (first | refine TRYD.take ?_ | refine TRYD.next ?_); conv => whnf)
      | (refine HOLD.mk (by first | exact trivial | exact ⟨⟨rfl, rfl⟩, trivial⟩ | exact ⟨⟨rfl, rfl⟩, ⟨rfl, rfl⟩, trivial⟩) ?_; (conv => whnf))
      | (refine CALL0.by (hA ..) rfl ?_; conv => whnf)
      | (refine CALLQ.mk _ _ _ (leL_refl _) (hA ..) rfl ?_; conv => whnf)
    split
    rotate_left
    · rename_i h
      exact Bool.noConfusion ((q).symm.trans h)
    rename_i hN
    clear hN
    conv => whnf
    exact ⟨rfl, rfl⟩
  | false =>
    conv => whnf
    repeat first
      | (refine DRAW.seek ?_; repeat (first | refine TRYD.take ?_ | refine TRYD.next ?_); conv => whnf)
      | (refine HOLD.mk (by first | exact trivial | exact ⟨⟨rfl, rfl⟩, trivial⟩ | exact ⟨⟨rfl, rfl⟩, ⟨rfl, rfl⟩, trivial⟩) ?_; (conv => whnf))
      | (refine CALL0.by (hA ..) rfl ?_; conv => whnf)
      | (refine CALLQ.mk _ _ _ (leL_refl _) (hA ..) rfl ?_; conv => whnf)
    split
    · rename_i h
      exact Bool.noConfusion ((q).symm.trans h)
    rename_i hN
    clear hN
    conv => whnf
    repeat first
      | (refine DRAW.seek ?_; repeat (first | refine TRYD.take ?_ | refine TRYD.next ?_); conv => whnf)
      | (refine HOLD.mk (by first | exact trivial | exact ⟨⟨rfl, rfl⟩, trivial⟩ | exact ⟨⟨rfl, rfl⟩, ⟨rfl, rfl⟩, trivial⟩) ?_; (conv => whnf))
      | (refine CALL0.by (hB ..) rfl ?_; conv => whnf)
      | (refine CALLQ.mk _ _ _ (leL_refl _) (hB ..) rfl ?_; conv => whnf)
    exact ⟨rfl, rfl⟩

end Go.Proofs.YtkdlegfakefjgaaGreatDoor.Ix

/-
  Cr6: contracts of the reference's functions for histories.
-/
namespace Go.Proofs.YtkdlegfakefjgaaGreatDoor.Ix
open Go.Proofs
set_option maxRecDepth 100000
set_option linter.unusedVariables false
set_option linter.unusedSimpArgs false
variable {gl : Nat → IV}

def shortA (n : Nat) (l : Nat → Ac) (k : Nat) : Bool := bif decide ((n : Int) > k) then (n : Int) == 1025 else allB (fun i => !decide (((l i).kind.size : Int) > 40)) n 0

theorem c_rShort (up : List Ces) (n : Nat) (hn : n ≤ 9223372036854775807) (l : Nat → Ac) (k : Nat) : Cs gl n_nacelleref05_ShortActs up [.lst none 5 n fun i => (l i).cs, .int .i64 k] (.bool (shortA n l k)) up := by
  refine mk h_nacelleref05_ShortActs rfl rfl ?_
  unfold shortA
  cases q0 : decide ((n : Int) > k) with
  | true =>
    conv => whnf
    split
    rotate_left
    · rename_i h
      exact Bool.noConfusion ((q0).symm.trans h)
    rename_i hN
    clear hN
    conv => whnf
    exact ⟨rfl, rfl⟩
  | false =>
    let p : Nat → Bool := fun i => !decide (((l i).kind.size : Int) > 40)
    conv => whnf
    split
    · rename_i h
      exact Bool.noConfusion ((q0).symm.trans h)
    rename_i hN
    clear hN
    conv => whnf
    refine .mk (α := {i : Nat // i ≤ n ∧ allB p n 0 = allB p (n - i) i}) (fun i => ⟨[(5, .int .i64 i.1), (0, .lst none 5 n fun i => (l i).cs)], [], up⟩) (fun i => n - i.1) ⟨0, Nat.zero_le _, rfl⟩ ⟨⟨leV_refl _, leV_refl _, trivial⟩, trivial, rfl, rfl⟩ ?_
    rintro ⟨i, hi, he⟩
    by_cases hlt : i < n
    · have hw : w64 ((i : Int) + 1) = ((i + 1 : Nat) : Int) := by rw [w64, wrap_in] <;> omega
      have q : decide ((i : Int) < (n : Int)) = true := decide_eq_true (by omega)
      rw [allB_step hlt] at he
      cases qe : decide (((l i).kind.size : Int) > 40) with
      | true =>
        have hp : p i = false := by show (!decide _) = false; rw [qe]; rfl
        rw [hp, Bool.false_and] at he
        conv => whnf
        split
        rotate_left
        · rename_i h
          exact Bool.noConfusion ((q).symm.trans h)
        rename_i hN
        clear hN
        conv => whnf
        split
        rotate_left
        · rename_i h
          exact Bool.noConfusion ((q).symm.trans h)
        rename_i hN
        clear hN
        conv => whnf
        split
        rotate_left
        · rename_i h
          exact Bool.noConfusion ((qe).symm.trans h)
        rename_i hN
        clear hN
        conv => whnf
        exact ⟨congrArg IV.bool he.symm, rfl⟩
      | false =>
        have hp : p i = true := by show (!decide _) = true; rw [qe]; rfl
        rw [hp, Bool.true_and] at he
        conv => whnf
        split
        rotate_left
        · rename_i h
          exact Bool.noConfusion ((q).symm.trans h)
        rename_i hN
        clear hN
        conv => whnf
        split
        rotate_left
        · rename_i h
          exact Bool.noConfusion ((q).symm.trans h)
        rename_i hN
        clear hN
        conv => whnf
        split
        · rename_i h
          exact Bool.noConfusion ((qe).symm.trans h)
        rename_i hN
        clear hN
        conv => whnf
        exact ⟨⟨i + 1, hlt, he⟩, ⟨⟨leV_int hw, leV_refl _, trivial⟩, trivial, rfl, rfl⟩, (by show n - (i + 1) < n - i; omega)⟩
    · have q : decide ((i : Int) < (n : Int)) = false := decide_eq_false (by omega)
      have : i = n := by omega
      subst this
      rw [Nat.sub_self] at he
      conv => whnf
      split
      · rename_i h
        exact Bool.noConfusion ((q).symm.trans h)
      rename_i hN
      clear hN
      conv => whnf
      exact ⟨congrArg IV.bool he.symm, rfl⟩

def tgT : Nat → Nat
  | 0 => 17
  | _ + 1 => 56
noncomputable def statesR (m : Mc) (n : Nat) (l : Nat → Ac) : IV :=
  bif decide ((n : Int) > 1024) then .tup [.nilS, .int .i64 0, .int .i64 5] else
  bif (repE m l n 0).2 != 0 then .tup [.nilS, .int .i64 (repE m l n 0).1, .int .i64 (repE m l n 0).2] else
  .tup [.lst (some (tgT n)) 7 (1 + n) fun i => (repS m l i).cs, .int .i64 0, .int .i64 0]


set_option maxHeartbeats 16000000 in
theorem c_rStates (up : List Ces) (m : Mc) (n : Nat) (hn : n ≤ 10000000) (l : Nat → Ac) (hm : m.ok) :
    Cs gl n_nacelleref05_States up [m.iv, .lst none 5 n fun i => (l i).cs] (statesR m n l) up := by
  refine mk h_nacelleref05_States rfl rfl ?_
  unfold statesR
  have hA := fun up k => c_rAct (gl := gl) up m (l k)
  cases q0 : decide ((n : Int) > 1024) with
  | true =>
    conv => whnf
    split
    rotate_left
    · rename_i h
      exact Bool.noConfusion ((q0).symm.trans h)
    rename_i hN
    clear hN
    conv => whnf
    exact ⟨rfl, rfl⟩
  | false =>
  rw [cond_false]
  generalize hR : repE m l n 0 = R
  conv => whnf
  split
  · rename_i h
    exact Bool.noConfusion ((q0).symm.trans h)
  rename_i hN
  clear hN
  conv => whnf
  repeat first
    | (refine DRAW.seek ?_; repeat (first | refine TRYD.take ?_ | refine TRYD.next ?_); conv => whnf)
    | (refine HOLD.mk (by first | exact trivial | exact ⟨⟨rfl, rfl⟩, trivial⟩ | exact ⟨⟨rfl, rfl⟩, ⟨rfl, rfl⟩, trivial⟩) ?_; (conv => whnf))
    | (refine CALL0.by (c_rBegin ..) rfl ?_; conv => whnf)
    | (refine CALLQ.mk _ _ _ (leL_refl _) (c_rBegin ..) rfl ?_; conv => whnf)
  let F : Nat → List IV := fun i => (repS m l i).cs
  refine .mk (α := {i : Nat // i ≤ n ∧ repE m l (n - i) i = R ∧ (repS m l i).inv m}) (fun i => ⟨[(8, .int .i64 i.1), (7, .lst (some (tgT i.1)) 7 (1 + i.1) F), (1, .lst none 5 n fun i => (l i).cs), (2, .ptr 0 2 0)],
    [(2, m.cs)], up⟩) (fun i => n - i.1) ⟨0, Nat.zero_le _, hR, begin_inv hm⟩ ⟨?_, ?_, rfl, rfl⟩ ?_
  · refine ⟨leV_refl _, ⟨.inr rfl, rfl, rfl, fun j hj => ?_⟩, leV_refl _, leV_refl _, trivial⟩
    obtain rfl : j = 0 := by omega
    rfl
  · exact ⟨leL_refl _, trivial⟩
  rintro ⟨i, hi, he, hs⟩
  have hw : w64 ((i : Int) + 1) = ((i + 1 : Nat) : Int) := by rw [w64, wrap_in] <;> omega
  by_cases hlt : i < n
  · have q : decide ((i : Int) < n) = true := decide_eq_true (by omega)
    have qj : decide ((i : Int) < ((1 + i : Nat) : Int)) = true := decide_eq_true (by omega)
    have hA := fun up => hA up i
    have hstep : repE m l (n - i) i = bif stepE m l i != 0 then (((i + 1 : Nat) : Int), stepE m l i) else repE m l (n - (i + 1)) (i + 1) := by
      rw [show n - i = (n - (i + 1)) + 1 by omega]; rfl
    by_cases h1 : (l i).err m = 0
    rotate_left
    · have q2 : ((l i).err m != 0) = true := by simpa using h1
      have hse : stepE m l i = (l i).err m := by unfold stepE; rw [show ((l i).err m == 0) = false by simpa using h1]; rfl
      rw [hse, q2, cond_true] at hstep
      have hR1 := hstep.symm.trans he
      have hRa : R.1 = ((i + 1 : Nat) : Int) := by rw [← hR1]
      have hRb : R.2 = (l i).err m := by rw [← hR1]
      have q3 : (R.2 != 0) = true := by rw [hRb]; exact q2
      rw [q3, hRa, hRb]
      cases i with
      | zero =>
        conv => whnf
        split
        rotate_left
        · rename_i h
          exact Bool.noConfusion ((q).symm.trans h)
        rename_i hN
        clear hN
        conv => whnf
        refine DRAW.seek ?_
        repeat (first | refine TRYD.take ?_ | refine TRYD.next ?_)
        conv => whnf
        split
        rotate_left
        · rename_i h
          exact Bool.noConfusion ((q).symm.trans h)
        rename_i hN
        clear hN
        conv => whnf
        repeat first
          | (refine DRAW.seek ?_; repeat (first | refine TRYD.take ?_ | refine TRYD.next ?_); conv => whnf)
          | (refine HOLD.mk (by first | exact trivial | exact ⟨⟨rfl, rfl⟩, trivial⟩ | exact ⟨⟨rfl, rfl⟩, ⟨rfl, rfl⟩, trivial⟩) ?_; (conv => whnf))
          | (refine CALL0.by (hA ..) rfl ?_; conv => whnf)
          | (refine CALLQ.mk _ _ _ (leL_refl _) (hA ..) rfl ?_; conv => whnf)
        split
        rotate_left
        · rename_i h
          exact Bool.noConfusion ((q2).symm.trans h)
        rename_i hN
        clear hN
        conv => whnf
        exact ⟨congrArg (fun x => IV.tup [.nilS, .int .i64 x, .int .i64 _]) hw, rfl⟩
      | succ i =>
        conv => whnf
        split
        rotate_left
        · rename_i h
          exact Bool.noConfusion ((q).symm.trans h)
        rename_i hN
        clear hN
        conv => whnf
        refine DRAW.seek ?_
        repeat (first | refine TRYD.take ?_ | refine TRYD.next ?_)
        conv => whnf
        split
        rotate_left
        · rename_i h
          exact Bool.noConfusion ((q).symm.trans h)
        rename_i hN
        clear hN
        conv => whnf
        repeat first
          | (refine DRAW.seek ?_; repeat (first | refine TRYD.take ?_ | refine TRYD.next ?_); conv => whnf)
          | (refine HOLD.mk (by first | exact trivial | exact ⟨⟨rfl, rfl⟩, trivial⟩ | exact ⟨⟨rfl, rfl⟩, ⟨rfl, rfl⟩, trivial⟩) ?_; (conv => whnf))
          | (refine CALL0.by (hA ..) rfl ?_; conv => whnf)
          | (refine CALLQ.mk _ _ _ (leL_refl _) (hA ..) rfl ?_; conv => whnf)
        split
        rotate_left
        · rename_i h
          exact Bool.noConfusion ((q2).symm.trans h)
        rename_i hN
        clear hN
        conv => whnf
        exact ⟨congrArg (fun x => IV.tup [.nilS, .int .i64 x, .int .i64 _]) hw, rfl⟩
    · obtain ⟨_, ha, _, _⟩ := Ac.err_ok h1
      have hne := kind_nonempty h1
      rw [h1] at hA
      have hN := fun up => c_rNext (gl := gl) up m (repS m l i) (l i) hm hs.rng ha hne
      cases q2 : ((repS m l i).allowedN m (l i) != 0) with
      | true =>
        rw [q2] at hN
        simp only [cond_true] at hN
        have hse : stepE m l i = 19 := by unfold stepE; rw [h1, q2]; rfl
        rw [hse] at hstep
        have hR1 := hstep.symm.trans he
        have hRa : R.1 = ((i + 1 : Nat) : Int) := by rw [← hR1]; rfl
        have hRb : R.2 = 19 := by rw [← hR1]; rfl
        have q3 : (R.2 != 0) = true := by rw [hRb]; rfl
        rw [q3, hRa, hRb]
        cases i with
        | zero =>
          conv => whnf
          split
          rotate_left
          · rename_i h
            exact Bool.noConfusion ((q).symm.trans h)
          rename_i hN
          clear hN
          conv => whnf
          refine DRAW.seek ?_
          repeat (first | refine TRYD.take ?_ | refine TRYD.next ?_)
          conv => whnf
          split
          rotate_left
          · rename_i h
            exact Bool.noConfusion ((q).symm.trans h)
          rename_i hN
          clear hN
          conv => whnf
          repeat first
            | (refine DRAW.seek ?_; repeat (first | refine TRYD.take ?_ | refine TRYD.next ?_); conv => whnf)
            | (refine HOLD.mk (by first | exact trivial | exact ⟨⟨rfl, rfl⟩, trivial⟩ | exact ⟨⟨rfl, rfl⟩, ⟨rfl, rfl⟩, trivial⟩) ?_; (conv => whnf))
            | (refine CALL0.by (hA ..) rfl ?_; conv => whnf)
            | (refine CALLQ.mk _ _ _ (leL_refl _) (hA ..) rfl ?_; conv => whnf)
          split
          rotate_left
          · rename_i h
            exact Bool.noConfusion ((q).symm.trans h)
          rename_i hN
          clear hN
          conv => whnf
          repeat first
            | (refine DRAW.seek ?_; repeat (first | refine TRYD.take ?_ | refine TRYD.next ?_); conv => whnf)
            | (refine HOLD.mk (by first | exact trivial | exact ⟨⟨rfl, rfl⟩, trivial⟩ | exact ⟨⟨rfl, rfl⟩, ⟨rfl, rfl⟩, trivial⟩) ?_; (conv => whnf))
            | (refine CALL0.by (hN ..) rfl ?_; conv => whnf)
            | (refine CALLQ.mk _ _ _ (leL_refl _) (hN ..) rfl ?_; conv => whnf)
          exact ⟨congrArg (fun x => IV.tup [.nilS, .int .i64 x, .int .i64 19]) hw, rfl⟩
        | succ i =>
          conv => whnf
          split
          rotate_left
          · rename_i h
            exact Bool.noConfusion ((q).symm.trans h)
          rename_i hN
          clear hN
          conv => whnf
          refine DRAW.seek ?_
          repeat (first | refine TRYD.take ?_ | refine TRYD.next ?_)
          conv => whnf
          split
          rotate_left
          · rename_i h
            exact Bool.noConfusion ((q).symm.trans h)
          rename_i hN
          clear hN
          conv => whnf
          repeat first
            | (refine DRAW.seek ?_; repeat (first | refine TRYD.take ?_ | refine TRYD.next ?_); conv => whnf)
            | (refine HOLD.mk (by first | exact trivial | exact ⟨⟨rfl, rfl⟩, trivial⟩ | exact ⟨⟨rfl, rfl⟩, ⟨rfl, rfl⟩, trivial⟩) ?_; (conv => whnf))
            | (refine CALL0.by (hA ..) rfl ?_; conv => whnf)
            | (refine CALLQ.mk _ _ _ (leL_refl _) (hA ..) rfl ?_; conv => whnf)
          split
          rotate_left
          · rename_i h
            exact Bool.noConfusion ((qj).symm.trans h)
          rename_i hN
          clear hN
          conv => whnf
          split
          rotate_left
          · rename_i h
            exact Bool.noConfusion ((q).symm.trans h)
          rename_i hN
          clear hN
          conv => whnf
          repeat first
            | (refine DRAW.seek ?_; repeat (first | refine TRYD.take ?_ | refine TRYD.next ?_); conv => whnf)
            | (refine HOLD.mk (by first | exact trivial | exact ⟨⟨rfl, rfl⟩, trivial⟩ | exact ⟨⟨rfl, rfl⟩, ⟨rfl, rfl⟩, trivial⟩) ?_; (conv => whnf))
            | (refine CALL0.by (hN ..) rfl ?_; conv => whnf)
            | (refine CALLQ.mk _ _ _ (leL_refl _) (hN ..) rfl ?_; conv => whnf)
          exact ⟨congrArg (fun x => IV.tup [.nilS, .int .i64 x, .int .i64 19]) hw, rfl⟩
      | false =>
        rw [q2] at hN
        simp only [cond_false] at hN
        have hse : stepE m l i = 0 := by unfold stepE; rw [h1, q2]; rfl
        rw [hse] at hstep
        have hR1 : repE m l (n - (i + 1)) (i + 1) = R := hstep.symm.trans he
        have hz : (repS m l i).allowedN m (l i) = 0 := by simpa using q2
        have hnx : (repS m l (i + 1)).inv m := behind_inv hm hs ha hz
        cases i with
        | zero =>
          conv => whnf
          split
          rotate_left
          · rename_i h
            exact Bool.noConfusion ((q).symm.trans h)
          rename_i hN
          clear hN
          conv => whnf
          refine DRAW.seek ?_
          repeat (first | refine TRYD.take ?_ | refine TRYD.next ?_)
          conv => whnf
          split
          rotate_left
          · rename_i h
            exact Bool.noConfusion ((q).symm.trans h)
          rename_i hN
          clear hN
          conv => whnf
          repeat first
            | (refine DRAW.seek ?_; repeat (first | refine TRYD.take ?_ | refine TRYD.next ?_); conv => whnf)
            | (refine HOLD.mk (by first | exact trivial | exact ⟨⟨rfl, rfl⟩, trivial⟩ | exact ⟨⟨rfl, rfl⟩, ⟨rfl, rfl⟩, trivial⟩) ?_; (conv => whnf))
            | (refine CALL0.by (hA ..) rfl ?_; conv => whnf)
            | (refine CALLQ.mk _ _ _ (leL_refl _) (hA ..) rfl ?_; conv => whnf)
          split
          rotate_left
          · rename_i h
            exact Bool.noConfusion ((q).symm.trans h)
          rename_i hN
          clear hN
          conv => whnf
          repeat first
            | (refine DRAW.seek ?_; repeat (first | refine TRYD.take ?_ | refine TRYD.next ?_); conv => whnf)
            | (refine HOLD.mk (by first | exact trivial | exact ⟨⟨rfl, rfl⟩, trivial⟩ | exact ⟨⟨rfl, rfl⟩, ⟨rfl, rfl⟩, trivial⟩) ?_; (conv => whnf))
            | (refine CALL0.by (hN ..) rfl ?_; conv => whnf)
            | (refine CALLQ.mk _ _ _ (leL_refl _) (hN ..) rfl ?_; conv => whnf)
          refine ⟨⟨1, hlt, hR1, hnx⟩, ⟨⟨leV_int hw, ⟨.inr rfl, rfl, rfl, fun j hj => ?_⟩, leV_refl _, leV_refl _, trivial⟩, ⟨leL_refl _, trivial⟩, rfl, rfl⟩, (by show n - 1 < n - 0; omega)⟩
          obtain rfl | rfl : j = 0 ∨ j = 1 := by have : j < 1 + 1 := hj; omega
          · rfl
          · rfl
        | succ i =>
          conv => whnf
          split
          rotate_left
          · rename_i h
            exact Bool.noConfusion ((q).symm.trans h)
          rename_i hN
          clear hN
          conv => whnf
          refine DRAW.seek ?_
          repeat (first | refine TRYD.take ?_ | refine TRYD.next ?_)
          conv => whnf
          split
          rotate_left
          · rename_i h
            exact Bool.noConfusion ((q).symm.trans h)
          rename_i hN
          clear hN
          conv => whnf
          repeat first
            | (refine DRAW.seek ?_; repeat (first | refine TRYD.take ?_ | refine TRYD.next ?_); conv => whnf)
            | (refine HOLD.mk (by first | exact trivial | exact ⟨⟨rfl, rfl⟩, trivial⟩ | exact ⟨⟨rfl, rfl⟩, ⟨rfl, rfl⟩, trivial⟩) ?_; (conv => whnf))
            | (refine CALL0.by (hA ..) rfl ?_; conv => whnf)
            | (refine CALLQ.mk _ _ _ (leL_refl _) (hA ..) rfl ?_; conv => whnf)
          split
          rotate_left
          · rename_i h
            exact Bool.noConfusion ((qj).symm.trans h)
          rename_i hN
          clear hN
          conv => whnf
          split
          rotate_left
          · rename_i h
            exact Bool.noConfusion ((q).symm.trans h)
          rename_i hN
          clear hN
          conv => whnf
          repeat first
            | (refine DRAW.seek ?_; repeat (first | refine TRYD.take ?_ | refine TRYD.next ?_); conv => whnf)
            | (refine HOLD.mk (by first | exact trivial | exact ⟨⟨rfl, rfl⟩, trivial⟩ | exact ⟨⟨rfl, rfl⟩, ⟨rfl, rfl⟩, trivial⟩) ?_; (conv => whnf))
            | (refine CALL0.by (hN ..) rfl ?_; conv => whnf)
            | (refine CALLQ.mk _ _ _ (leL_refl _) (hN ..) rfl ?_; conv => whnf)
          split
          rotate_left
          · rename_i h
            have h' : decide (1 + (i + 1) + 1 ≤ 1073741824) = false := h
            simp at h' <;> omega
          conv => whnf
          refine ⟨⟨i + 2, hlt, hR1, hnx⟩, ⟨⟨leV_int hw, ⟨.inr rfl, rfl, rfl, fun j hj => ?_⟩, leV_refl _, leV_refl _, trivial⟩, ⟨leL_refl _, trivial⟩, rfl, rfl⟩, (by show n - (i + 2) < n - (i + 1); omega)⟩
          show (if j < 1 + (i + 1) then F j else litF 7 (F (i + 2)) (j - (1 + (i + 1)))) = F j
          split
          · rfl
          · have : j = i + 2 := by have : j < 1 + (i + 2) := hj; omega
            subst this
            rw [show i + 2 - (1 + (i + 1)) = 0 by omega]
            rfl
  · have q : decide ((i : Int) < n) = false := decide_eq_false (by omega)
    have e : i = n := by omega
    subst e
    rw [Nat.sub_self] at he
    have q3 : (R.2 != 0) = false := by rw [← he]; rfl
    rw [q3]
    conv => whnf
    split
    · rename_i h
      exact Bool.noConfusion ((q).symm.trans h)
    rename_i hN
    clear hN
    conv => whnf
    exact ⟨rfl, rfl⟩

/-- A history without an error. -/
structure Hist (m : Mc) (n : Nat) (l : Nat → Ac) : Prop where
  ok : m.ok
  len : n ≤ 1024
  err : (repE m l n 0).2 = 0

noncomputable def histE (m : Mc) (n : Nat) (l : Nat → Ac) : Int := bif m.err != 0 then m.err else bif decide ((n : Int) > 1024) then 5 else (repE m l n 0).2

theorem c_rHistory (up : List Ces) (m : Mc) (n : Nat) (hn : n ≤ 10000000) (l : Nat → Ac) : Cs gl n_nacelleref05_CheckHistory up [m.iv, .lst none 5 n fun i => (l i).cs] (.int .i64 (histE m n l)) up := by
  refine mk h_nacelleref05_CheckHistory rfl rfl ?_
  unfold histE
  by_cases h0 : m.err = 0
  rotate_left
  · have q : (m.err != 0) = true := by simpa using h0
    rw [q]
    conv => whnf
    repeat first
      | (refine DRAW.seek ?_; repeat (first | refine TRYD.take ?_ | refine TRYD.next ?_); conv => whnf)
      | (refine HOLD.mk (by first | exact trivial | exact ⟨⟨rfl, rfl⟩, trivial⟩ | exact ⟨⟨rfl, rfl⟩, ⟨rfl, rfl⟩, trivial⟩) ?_; (conv => whnf))
      | (refine CALL0.by (c_rMachine ..) rfl ?_; conv => whnf)
      | (refine CALLQ.mk _ _ _ (leL_refl _) (c_rMachine ..) rfl ?_; conv => whnf)
    split
    rotate_left
    · rename_i h
      exact Bool.noConfusion ((q).symm.trans h)
    rename_i hN
    clear hN
    conv => whnf
    exact ⟨rfl, rfl⟩
  · have q : (m.err != 0) = false := by simpa using h0
    rw [q]
    have hS := fun up => c_rStates (gl := gl) up m n hn l (Mc.err_ok h0)
    unfold statesR at hS
    cases q0 : decide ((n : Int) > 1024) with
    | true =>
      rw [q0] at hS
      simp only [cond_true] at hS
      conv => whnf
      repeat first
        | (refine DRAW.seek ?_; repeat (first | refine TRYD.take ?_ | refine TRYD.next ?_); conv => whnf)
        | (refine HOLD.mk (by first | exact trivial | exact ⟨⟨rfl, rfl⟩, trivial⟩ | exact ⟨⟨rfl, rfl⟩, ⟨rfl, rfl⟩, trivial⟩) ?_; (conv => whnf))
        | (refine CALL0.by (c_rMachine ..) rfl ?_; conv => whnf)
        | (refine CALLQ.mk _ _ _ (leL_refl _) (c_rMachine ..) rfl ?_; conv => whnf)
      split
      · rename_i h
        exact Bool.noConfusion ((q).symm.trans h)
      rename_i hN
      clear hN
      conv => whnf
      repeat first
        | (refine DRAW.seek ?_; repeat (first | refine TRYD.take ?_ | refine TRYD.next ?_); conv => whnf)
        | (refine HOLD.mk (by first | exact trivial | exact ⟨⟨rfl, rfl⟩, trivial⟩ | exact ⟨⟨rfl, rfl⟩, ⟨rfl, rfl⟩, trivial⟩) ?_; (conv => whnf))
        | (refine CALL0.by (hS ..) rfl ?_; conv => whnf)
        | (refine CALLQ.mk _ _ _ (leL_refl _) (hS ..) rfl ?_; conv => whnf)
      exact ⟨rfl, rfl⟩
    | false =>
      rw [q0] at hS
      simp only [cond_false] at hS
      cases q1 : ((repE m l n 0).2 != 0) with
      | true =>
        rw [q1] at hS
        simp only [cond_true] at hS
        conv => whnf
        repeat first
          | (refine DRAW.seek ?_; repeat (first | refine TRYD.take ?_ | refine TRYD.next ?_); conv => whnf)
          | (refine HOLD.mk (by first | exact trivial | exact ⟨⟨rfl, rfl⟩, trivial⟩ | exact ⟨⟨rfl, rfl⟩, ⟨rfl, rfl⟩, trivial⟩) ?_; (conv => whnf))
          | (refine CALL0.by (c_rMachine ..) rfl ?_; conv => whnf)
          | (refine CALLQ.mk _ _ _ (leL_refl _) (c_rMachine ..) rfl ?_; conv => whnf)
        split
        · rename_i h
          exact Bool.noConfusion ((q).symm.trans h)
        rename_i hN
        clear hN
        conv => whnf
        repeat first
          | (refine DRAW.seek ?_; repeat (first | refine TRYD.take ?_ | refine TRYD.next ?_); conv => whnf)
          | (refine HOLD.mk (by first | exact trivial | exact ⟨⟨rfl, rfl⟩, trivial⟩ | exact ⟨⟨rfl, rfl⟩, ⟨rfl, rfl⟩, trivial⟩) ?_; (conv => whnf))
          | (refine CALL0.by (hS ..) rfl ?_; conv => whnf)
          | (refine CALLQ.mk _ _ _ (leL_refl _) (hS ..) rfl ?_; conv => whnf)
        exact ⟨rfl, rfl⟩
      | false =>
        rw [q1] at hS
        simp only [cond_false] at hS
        have hS := fun up => (hS up).res (r' := .tup [.lst none 7 (1 + n) fun i => (repS m l i).cs, .int .i64 0, .int .i64 0]) ⟨tagless _ _ _ _, leV_refl _, leV_refl _, trivial⟩
        have z : (repE m l n 0).2 = 0 := by simpa using q1
        rw [z]
        conv => whnf
        repeat first
          | (refine DRAW.seek ?_; repeat (first | refine TRYD.take ?_ | refine TRYD.next ?_); conv => whnf)
          | (refine HOLD.mk (by first | exact trivial | exact ⟨⟨rfl, rfl⟩, trivial⟩ | exact ⟨⟨rfl, rfl⟩, ⟨rfl, rfl⟩, trivial⟩) ?_; (conv => whnf))
          | (refine CALL0.by (c_rMachine ..) rfl ?_; conv => whnf)
          | (refine CALLQ.mk _ _ _ (leL_refl _) (c_rMachine ..) rfl ?_; conv => whnf)
        split
        · rename_i h
          exact Bool.noConfusion ((q).symm.trans h)
        rename_i hN
        clear hN
        conv => whnf
        repeat first
          | (refine DRAW.seek ?_; repeat (first | refine TRYD.take ?_ | refine TRYD.next ?_); conv => whnf)
          | (refine HOLD.mk (by first | exact trivial | exact ⟨⟨rfl, rfl⟩, trivial⟩ | exact ⟨⟨rfl, rfl⟩, ⟨rfl, rfl⟩, trivial⟩) ?_; (conv => whnf))
          | (refine CALL0.by (hS ..) rfl ?_; conv => whnf)
          | (refine CALLQ.mk _ _ _ (leL_refl _) (hS ..) rfl ?_; conv => whnf)
        exact ⟨rfl, rfl⟩
end Go.Proofs.YtkdlegfakefjgaaGreatDoor.Ix

/-
  Cp5: plain laws of tables: the search finds the first speed that is not safe; with an angle nearer to Feather it is no less.
-/
namespace Go.Proofs.YtkdlegfakefjgaaGreatDoor.Ix
open Go.Proofs
set_option linter.unusedVariables false
set_option linter.unusedSimpArgs false

/-- At Feather each speed up to the limit is safe. -/
theorem fea_most {m : Mc} (hm : m.ok) {v : Int} (hv : 0 ≤ v ∧ v ≤ m.lim) (k : Int) (h1 : -1 ≤ k) (h2 : k ≤ 2) : ∀ n, ((atS m.fea v).stepW m k n).p0 = m.fea ∧ ((atS m.fea v).stepW m k n).p1 = m.fea ∧ ((atS m.fea v).stepW m k n).p2 = m.fea ∧ ((atS m.fea v).stepW m k n).speed ≤ v ∧ (atS m.fea v).most m k n = v
  | 0 => ⟨rfl, rfl, rfl, Int.le_refl _, rfl⟩
  | n + 1 => by
    obtain ⟨a, b, c, d, e⟩ := fea_most hm hv k h1 h2 n
    have hl := hm.lim
    have hf := hm.fea
    have hr := hm.rate
    have hw := hm.wind
    have h2w := hm.two
    have hs := atS_rng hm (a := m.fea) ⟨by omega, Int.le_refl _⟩ hv
    have hb := (stepW_bnd hm h1 h2 hs (mu_start hm hs (by show v ≤ 10000; omega) k) n).1
    have e2 := braked_eq hm hb m.wind k (by omega)
    have g : (atS m.fea v).stepW m k (n + 1) = ((atS m.fea v).stepW m k n).brakedW m m.wind k := rfl
    have q0 : ∀ i : Int, stepP m k i m.fea = m.fea := fun i => by unfold stepP; split <;> omega
    rw [a, b, c, q0, q0, q0] at e2
    rw [g, e2]
    have hsp : max 0 (((atS m.fea v).stepW m k n).speed + m.wind - m.fea - m.fea - m.fea) ≤ v := by omega
    refine ⟨rfl, rfl, rfl, hsp, ?_⟩
    show maxW ((atS m.fea v).most m k n) ((atS m.fea v).stepW m k (n + 1)).speed = v
    rw [g, e2, e, maxW_eq]
    show max v (max 0 _) = v
    omega

theorem fea_safe {m : Mc} (hm : m.ok) {v : Int} (hv : 0 ≤ v ∧ v ≤ m.lim) : (atS m.fea v).safeN m = true := by
  rw [safeN_iff]
  intro k hk
  right
  unfold Sta.pk
  rw [(fea_most hm hv (k : Nat) (by omega) (by omega) _).2.2.2.2]
  omega

end Go.Proofs.YtkdlegfakefjgaaGreatDoor.Ix

/-
  Cp6: plain laws of histories: what is reached has no error, and a rotor that runs is safe; a stop that is braked in any wind rests in time.
-/
namespace Go.Proofs.YtkdlegfakefjgaaGreatDoor.Ix
open Go.Proofs
set_option linter.unusedVariables false
set_option linter.unusedSimpArgs false

/-- What is reached: no error, and safe if it runs. -/
structure Sta.good (s : Sta) (m : Mc) : Prop where
  err : s.err m = 0
  safe : eqS s.mode sRun = true → s.safeN m = true

theorem Sta.good.inv {s : Sta} {m : Mc} (h : s.good m) : s.inv m := by
  obtain ⟨_, hr, hl, hs, _⟩ := Sta.err_rng h.err
  exact ⟨hr, hl, hs⟩

theorem err_mk {m : Mc} (hm : m.ok) {s : Sta} (hi : s.inv m) (ht : 0 ≤ s.tor ∧ s.tor ≤ m.tor) (hk : s.known = true) (hf : s.fits m = true) : s.err m = 0 := by
  unfold Sta.err Sta.err1 Sta.err2
  rw [orE_zero, orL_zero, orL_zero]
  simp only [List.mem_cons, List.not_mem_nil, or_false, forall_eq_or_imp, forall_eq, withinS_zero]
  rw [hk, hf]
  exact ⟨⟨Mc.err_of hm, rfl, hi.rng.speed.1, hi.lim⟩, hi.rng.p0, hi.rng.p1, hi.rng.p2, ht, hi.stuck, rfl⟩

theorem ne_run_idle : eqS sRun sIdle = false := kinds_ne (eqS_iff.2 rfl) (by decide)
theorem ne_stop_idle : eqS sStop sIdle = false := kinds_ne (eqS_iff.2 rfl) (by decide)
theorem ne_stop_run : eqS sStop sRun = false := kinds_ne (eqS_iff.2 rfl) (by decide)
theorem ne_idle_run : eqS sIdle sRun = false := kinds_ne (eqS_iff.2 rfl) (by decide)
theorem eq_self (a : ByteArray) : eqS a a = true := eqS_iff.2 rfl

theorem known_run {s : Sta} (h : s.mode = sRun) : s.known = true := by
  rw [known_has, hasW_modes, h, eq_self]; simp
theorem known_stop {s : Sta} (h : s.mode = sStop) : s.known = true := by
  rw [known_has, hasW_modes, h, eq_self]; simp
theorem known_idle {s : Sta} (h : s.mode = sIdle) : s.known = true := by
  rw [known_has, hasW_modes, h, eq_self]; simp
theorem fits_run {s : Sta} {m : Mc} (h : s.mode = sRun) : s.fits m = true := by
  unfold Sta.fits
  simp only [eqS_beq]
  rw [h, ne_run_idle, eq_self]; rfl
theorem fits_stop {s : Sta} {m : Mc} (h : s.mode = sStop) (ht : s.tor = 0) : s.fits m = true := by
  unfold Sta.fits
  simp only [eqS_beq]
  rw [h, ne_stop_idle, ne_stop_run, eq_self, ht]; rfl
theorem fits_idle {s : Sta} {m : Mc} (h : s.mode = sIdle) (h1 : s.speed = 0) (h2 : s.tor = 0) (h3 : 2 ≤ atA m.fea [s.p0, s.p1, s.p2]) : s.fits m = true := by
  unfold Sta.fits
  simp only [eqS_beq]
  rw [h, eq_self, h1, h2, decide_eq_true (show atA m.fea [s.p0, s.p1, s.p2] ≥ 2 from h3)]; rfl
theorem fits_inv {s : Sta} {m : Mc} (h : s.fits m = true) : (eqS s.mode sIdle = true → s.speed = 0 ∧ s.tor = 0 ∧ 2 ≤ atA m.fea [s.p0, s.p1, s.p2]) ∧ (eqS s.mode sStop = true → s.tor = 0) := by
  unfold Sta.fits at h
  simp only [eqS_beq] at h
  constructor
  · intro hi
    rw [hi, cond_true, Bool.and_eq_true, Bool.and_eq_true] at h
    exact ⟨by simpa using h.1, by simpa using h.2.1, of_decide_eq_true h.2.2⟩
  · intro hi
    have e1 : eqS s.mode sIdle = false := kinds_ne hi (by decide)
    have e2 : eqS s.mode sRun = false := kinds_ne hi (by decide)
    rw [e1, e2, hi] at h
    simpa using h

theorem begin_good {m : Mc} (hm : m.ok) : (beginS m).good m := by
  have ht := hm.tor
  refine ⟨err_mk hm (begin_inv hm) ⟨Int.le_refl _, ht.1⟩ (known_idle rfl) (fits_idle rfl rfl rfl ?_), fun h => ?_⟩
  · show 2 ≤ atA m.fea [m.fea, m.fea, m.fea]
    simp [atA]
  · have h : eqS sIdle sRun = true := h
    rw [ne_idle_run] at h; cases h

theorem rule_mode {s : Sta} {m : Mc} {a : Ac} (h : s.allowedN m a = 0) : ((eqS a.kind sStart = true ∨ eqS a.kind sRepair = true) → eqS s.mode sIdle = true) ∧ ((eqS a.kind sTick = true ∨ eqS a.kind sStop = true) → eqS s.mode sRun = true) ∧ ((eqS a.kind sBrake = true ∨ eqS a.kind sRest = true) → eqS s.mode sStop = true) := by
  have h0 : (inK a.kind sStart sRepair && (!eqS s.mode sIdle)) = false := allowed_zero h 0 (by decide)
  have h1 : (inK a.kind sTick sStop && (!eqS s.mode sRun)) = false := allowed_zero h 1 (by decide)
  have h2 : (inK a.kind sBrake sRest && (!eqS s.mode sStop)) = false := allowed_zero h 2 (by decide)
  rw [inK_eq] at h0 h1 h2
  refine ⟨fun k => ?_, fun k => ?_, fun k => ?_⟩
  · rw [show (eqS a.kind sStart || eqS a.kind sRepair) = true by rcases k with k | k <;> simp [k], Bool.true_and] at h0
    simpa using h0
  · rw [show (eqS a.kind sTick || eqS a.kind sStop) = true by rcases k with k | k <;> simp [k], Bool.true_and] at h1
    simpa using h1
  · rw [show (eqS a.kind sBrake || eqS a.kind sRest) = true by rcases k with k | k <;> simp [k], Bool.true_and] at h2
    simpa using h2

theorem atA_three {f a b c : Int} : 3 ≤ atA f [a, b, c] ↔ a = f ∧ b = f ∧ c = f := by
  simp only [atA]
  by_cases h0 : a = f <;> by_cases h1 : b = f <;> by_cases h2 : c = f <;> simp [h0, h1, h2]

theorem behind_good {m : Mc} (hm : m.ok) {s : Sta} (hs : s.good m) {a : Ac} (ha : a.ok m) (h : s.allowedN m a = 0) : (s.behindW m a).good m := by
  have hinv := behind_inv hm hs.inv ha h
  obtain ⟨_, hr, hl, hst, htor, hkn, hft⟩ := Sta.err_rng hs.err
  obtain ⟨f1, f2⟩ := fits_inv hft
  obtain ⟨r1, r2, r3⟩ := rule_mode h
  have ht := hm.tor
  cases q1 : eqS a.kind sStart with
  | true =>
    have e : s.behindW m a = { s with mode := sRun } := by unfold Sta.behindW; rw [q1]; rfl
    have hi := r1 (.inl q1)
    obtain ⟨g1, g2, g3⟩ := f1 hi
    have h3 : (inK a.kind sStart ByteArray.empty && s.rule4 m) = false := allowed_zero h 3 (by decide)
    rw [inK_eq, q1, Bool.true_or, Bool.true_and, rule4_eq, Bool.or_eq_false_iff] at h3
    have a3 : 3 ≤ atA m.fea [s.p0, s.p1, s.p2] := by have := of_decide_eq_false h3.1; omega
    obtain ⟨p0, p1, p2⟩ := atA_three.1 a3
    have hsk : s.stuck = -1 := by simpa using h3.2
    have e2 : s.behindW m a = atS m.fea 0 := by
      rw [e]
      show (⟨sRun, s.speed, s.p0, s.p1, s.p2, s.tor, s.stuck⟩ : Sta) = ⟨sRun, 0, m.fea, m.fea, m.fea, 0, -1⟩
      rw [g1, g2, p0, p1, p2, hsk]
    have hl := hm.lim
    refine ⟨err_mk hm hinv (by rw [e]; exact htor) (known_run (by rw [e])) (fits_run (by rw [e])), fun _ => ?_⟩
    rw [e2]
    exact fea_safe hm ⟨Int.le_refl _, by omega⟩
  | false =>
  cases q2 : eqS a.kind sTick with
  | true =>
    have e : s.behindW m a = Sta.laterW { s.movedW m a.pitch a.stuck with tor := a.tor } a.wind := by unfold Sta.behindW; rw [q1, q2]; rfl
    have hi := eqS_iff.1 (r2 (.inl q2))
    have em : (s.behindW m a).mode = sRun := by rw [e]; exact hi
    have et : (s.behindW m a).tor = a.tor := by rw [e]; rfl
    refine ⟨err_mk hm hinv (by rw [et]; exact ha.tor) (known_run em) (fits_run em), fun _ => ?_⟩
    have h6 : (inK a.kind sTick sBrake && s.rule7 m a (fun k => (s.behindW m a).num m k)) = false := allowed_zero h 6 (by decide)
    rw [inK_eq, q2, Bool.true_or, Bool.true_and] at h6
    unfold Sta.rule7 at h6
    rw [q2, Bool.or_eq_false_iff, Bool.true_and] at h6
    have := h6.2
    unfold Sta.safeN
    simpa using this
  | false =>
  cases q3 : eqS a.kind sStop with
  | true =>
    have e : s.behindW m a = { s with mode := sStop, tor := 0 } := by unfold Sta.behindW; rw [q1, q2, q3]; rfl
    refine ⟨err_mk hm hinv (by rw [e]; exact ⟨Int.le_refl _, ht.1⟩) (known_stop (by rw [e])) (fits_stop (by rw [e]) (by rw [e])), fun hrun => ?_⟩
    rw [e] at hrun
    have hrun : eqS sStop sRun = true := hrun
    rw [ne_stop_run] at hrun; cases hrun
  | false =>
  cases q4 : eqS a.kind sBrake with
  | true =>
    have e : s.behindW m a = s.brakedW m a.wind a.stuck := by unfold Sta.behindW; rw [q1, q2, q3, q4]; rfl
    refine ⟨err_mk hm hinv (by rw [e]; exact ⟨Int.le_refl _, ht.1⟩) (known_stop (by rw [e]; rfl)) (fits_stop (by rw [e]; rfl) (by rw [e]; rfl)), fun hrun => ?_⟩
    rw [e] at hrun
    have hrun : eqS sStop sRun = true := hrun
    rw [ne_stop_run] at hrun; cases hrun
  | false =>
  cases q5 : eqS a.kind sRest with
  | true =>
    have e : s.behindW m a = { s with mode := sIdle } := by unfold Sta.behindW; rw [q1, q2, q3, q4, q5]; rfl
    have h4 : (inK a.kind sRest ByteArray.empty && s.rule5 m) = false := allowed_zero h 4 (by decide)
    rw [inK_eq, q5, Bool.true_or, Bool.true_and] at h4
    unfold Sta.rule5 at h4
    rw [Bool.or_eq_false_iff] at h4
    have hsp : s.speed = 0 := by simpa using h4.1
    have hfe : 2 ≤ atA m.fea [s.p0, s.p1, s.p2] := by have := of_decide_eq_false h4.2; omega
    have ht0 := f2 (r3 (.inr q5))
    refine ⟨err_mk hm hinv (by rw [e]; exact htor) (known_idle (by rw [e])) (fits_idle (by rw [e]) (by rw [e]; exact hsp) (by rw [e]; exact ht0) (by rw [e]; exact hfe)), fun hrun => ?_⟩
    rw [e] at hrun
    have hrun : eqS sIdle sRun = true := hrun
    rw [ne_idle_run] at hrun; cases hrun
  | false =>
  cases q6 : eqS a.kind sRepair with
  | true =>
    have e : s.behindW m a = { s with p0 := m.fea, p1 := m.fea, p2 := m.fea, stuck := -1 } := by unfold Sta.behindW; rw [q1, q2, q3, q4, q5, q6]; rfl
    have hi := r1 (.inr q6)
    obtain ⟨g1, g2, g3⟩ := f1 hi
    have hmode := eqS_iff.1 hi
    refine ⟨err_mk hm hinv (by rw [e]; exact htor) (known_idle (by rw [e]; exact hmode)) (fits_idle (by rw [e]; exact hmode) (by rw [e]; exact g1) (by rw [e]; exact g2) (by rw [e]; show 2 ≤ atA m.fea [m.fea, m.fea, m.fea]; simp [atA])), fun hrun => ?_⟩
    rw [e] at hrun
    have hrun : eqS s.mode sRun = true := hrun
    rw [hmode, ne_idle_run] at hrun; cases hrun
  | false =>
    have e : s.behindW m a = s := by unfold Sta.behindW; rw [q1, q2, q3, q4, q5, q6]; rfl
    rw [e]
    exact hs

theorem repE_suffix {m : Mc} {l : Nat → Ac} : ∀ (n i : Nat), (repE m l n i).2 = 0 → ∀ j, j < n → stepE m l (i + j) = 0
  | 0, i, _, j, hj => by omega
  | n + 1, i, h, j, hj => by
    unfold repE at h
    cases q : (stepE m l i != 0) with
    | true =>
      rw [q, cond_true] at h
      simp only at h
      rw [h] at q; cases q
    | false =>
      rw [q, cond_false] at h
      cases j with
      | zero => rw [Nat.add_zero]; simpa using q
      | succ j =>
        have := repE_suffix n (i + 1) h j (by omega)
        rw [show i + (j + 1) = i + 1 + j by omega]
        exact this

theorem step_zero {m : Mc} {l : Nat → Ac} {i : Nat} (h : stepE m l i = 0) : (l i).err m = 0 ∧ (repS m l i).allowedN m (l i) = 0 := by
  unfold stepE at h
  cases q2 : (l i).err m == 0 with
  | false =>
    rw [q2, cond_false] at h
    rw [h] at q2; cases q2
  | true =>
    have hz : (l i).err m = 0 := by simpa using q2
    rw [q2, cond_true, bif_nz (by decide)] at h
    exact ⟨hz, by simpa using h⟩

theorem hist_good {m : Mc} {n : Nat} {l : Nat → Ac} (h : Hist m n l) : ∀ k, k ≤ n → (repS m l k).good m
  | 0, _ => begin_good h.ok
  | k + 1, hk => by
    have hg := hist_good h k (by omega)
    have := repE_suffix n 0 h.err k (by omega)
    rw [Nat.zero_add] at this
    obtain ⟨a, b⟩ := step_zero this
    exact behind_good h.ok hg (Ac.err_ok a).2.1 b
end Go.Proofs.YtkdlegfakefjgaaGreatDoor.Ix

/-
  Cp7: a stop that is braked in any wind, with a blade that is stuck in some steps.
-/
namespace Go.Proofs.YtkdlegfakefjgaaGreatDoor.Ix
open Go.Proofs
set_option linter.unusedVariables false
set_option linter.unusedSimpArgs false

/-- What holds behind 'j' steps of a stop of 't' with the blade 'b'. -/
structure BrakeI (m : Mc) (t : Sta) (b : Int) (j : Nat) (s : Sta) : Prop where
  mode : s.mode = sStop
  tor : s.tor = 0
  stuck : s.stuck = -1 ∨ s.stuck = b
  rng : s.rng m
  le : s.le (t.stepW m b j)
  n0 : b = 0 ∨ min m.fea j ≤ s.p0
  n1 : b = 1 ∨ min m.fea j ≤ s.p1
  n2 : b = 2 ∨ min m.fea j ≤ s.p2
  slow : m.fea ≤ j → s.speed ≤ max 0 (m.lim - (j - m.fea))
  lim : s.speed ≤ m.lim

theorem most_at (s : Sta) (m : Mc) (k : Int) : ∀ n, (s.stepW m k n).speed ≤ s.most m k n
  | 0 => Int.le_refl _
  | n + 1 => by
    show (s.stepW m k (n + 1)).speed ≤ maxW _ _
    rw [maxW_eq]; omega

theorem stepW_pk {m : Mc} (hm : m.ok) {s : Sta} (hs : s.rng m) (hsp : s.speed ≤ 10000) {k : Int} (h1 : -1 ≤ k) (h2 : k ≤ 2) (n : Nat) : (s.stepW m k n).speed ≤ s.pk m k := by
  have a := most_at s m k n
  rcases Nat.le_total (s.num m k) n with h | h
  · rw [pk_at hm hs hsp h1 h2 h] at a; exact a
  · have mono : ∀ d, s.most m k n ≤ s.most m k (n + d) := fun d => by
      induction d with
      | zero => exact Int.le_refl _
      | succ d ih =>
        show _ ≤ maxW (s.most m k (n + d)) _
        rw [maxW_eq]; omega
    have := mono (s.num m k - n)
    rw [show n + (s.num m k - n) = s.num m k by omega] at this
    unfold Sta.pk
    omega

theorem brake_start {m : Mc} (hm : m.ok) {t : Sta} (ht : t.rng m) (hl : t.speed ≤ m.lim) (hmo : t.mode = sStop) (hto : t.tor = 0) {b : Int} (hst : t.stuck = -1 ∨ t.stuck = b) : BrakeI m t b 0 t := by
  have hf := hm.fea
  have g1 := ht.p0
  have g2 := ht.p1
  have g3 := ht.p2
  exact ⟨hmo, hto, hst, ht, t.le_refl, .inr (by omega), .inr (by omega), .inr (by omega), fun h => by omega, hl⟩

theorem brake_step {m : Mc} (hm : m.ok) {t : Sta} (ht : t.rng m) (htl : t.speed ≤ m.lim) {b : Int} (h1 : 0 ≤ b) (h2 : b ≤ 2) (hpk : t.pk m b ≤ m.lim) {j : Nat} {s : Sta} (hs : BrakeI m t b j s) {w k : Int} (hw : 0 ≤ w ∧ w ≤ m.wind) (hk : k = b ∨ k = -1) : BrakeI m t b (j + 1) (s.brakedW m w k) := by
  have hlim := hm.lim
  have hwi := hm.wind
  have hf := hm.fea
  have hra := hm.rate
  have h2w := hm.two
  obtain ⟨a1, a2, a3, a4, a5, a6, a7, a8, a9, a10⟩ := hs
  have e := braked_eq hm a4 w k (by omega)
  have hsp : t.speed ≤ 10000 := by omega
  have hb := (stepW_bnd hm (by omega) h2 ht (mu_start hm ht hsp b) j).1
  have le' : (s.brakedW m w k).le (t.stepW m b (j + 1)) := step_le hm hm rfl rfl a4 hb a5 (w := w) (w' := m.wind) (by omega) hk
  have hl' : (s.brakedW m w k).speed ≤ m.lim := by
    have := stepW_pk hm ht hsp (k := b) (by omega) h2 (j + 1)
    have := le'.speed
    omega
  have rng' := step_rng hm a4 (by omega) w k (by omega)
  have q0 : b = 0 ∨ min m.fea ((j + 1 : Nat) : Int) ≤ stepP m k 0 s.p0 := by
    rcases a6 with h | h
    · exact .inl h
    · by_cases hb0 : b = 0
      · exact .inl hb0
      · right
        unfold stepP
        rw [if_neg (by omega)]
        omega
  have q1 : b = 1 ∨ min m.fea ((j + 1 : Nat) : Int) ≤ stepP m k 1 s.p1 := by
    rcases a7 with h | h
    · exact .inl h
    · by_cases hb0 : b = 1
      · exact .inl hb0
      · right
        unfold stepP
        rw [if_neg (by omega)]
        omega
  have q2 : b = 2 ∨ min m.fea ((j + 1 : Nat) : Int) ≤ stepP m k 2 s.p2 := by
    rcases a8 with h | h
    · exact .inl h
    · by_cases hb0 : b = 2
      · exact .inl hb0
      · right
        unfold stepP
        rw [if_neg (by omega)]
        omega
  have g0 := rng'.p0
  have g1 := rng'.p1
  have g2 := rng'.p2
  rw [e] at g0 g1 g2 le' hl' rng' ⊢
  refine ⟨rfl, rfl, ?_, rng', le', q0, q1, q2, fun hj => ?_, hl'⟩
  · show (if k = -1 then s.stuck else k) = -1 ∨ (if k = -1 then s.stuck else k) = b
    rcases hk with rfl | rfl
    · rw [if_neg (by omega)]; exact .inr rfl
    · rw [if_pos rfl]; exact a3
  · show max 0 (s.speed + w - stepP m k 0 s.p0 - stepP m k 1 s.p1 - stepP m k 2 s.p2) ≤ max 0 (m.lim - (((j + 1 : Nat) : Int) - m.fea))
    have g0 : 0 ≤ stepP m k 0 s.p0 ∧ stepP m k 0 s.p0 ≤ m.fea := g0
    have g1 : 0 ≤ stepP m k 1 s.p1 ∧ stepP m k 1 s.p1 ≤ m.fea := g1
    have g2 : 0 ≤ stepP m k 2 s.p2 ∧ stepP m k 2 s.p2 ≤ m.fea := g2
    have hl'' : max 0 (s.speed + w - stepP m k 0 s.p0 - stepP m k 1 s.p1 - stepP m k 2 s.p2) ≤ m.lim := hl'
    generalize stepP m k 0 s.p0 = x0 at *
    generalize stepP m k 1 s.p1 = x1 at *
    generalize stepP m k 2 s.p2 = x2 at *
    by_cases hj2 : m.fea ≤ (j : Int)
    · have := a9 hj2
      clear e
      omega
    · have : ((j + 1 : Nat) : Int) = m.fea := by omega
      rw [this, Int.sub_self, Int.sub_zero]
      clear e
      omega

theorem brake_err {m : Mc} (hm : m.ok) {t : Sta} {b : Int} (h1 : 0 ≤ b) (h2 : b ≤ 2) {j : Nat} {s : Sta} (hs : BrakeI m t b j s) : s.err m = 0 := by
  have ht := hm.tor
  refine err_mk hm ⟨hs.rng, hs.lim, ?_⟩ (by rw [hs.tor]; omega) (known_stop hs.mode) (fits_stop hs.mode hs.tor)
  rcases hs.stuck with h | h <;> omega

/-- Whether it rests. -/
def Sta.restsB (s : Sta) (m : Mc) : Bool := s.speed == 0 && decide (atA m.fea [s.p0, s.p1, s.p2] ≥ 2)

theorem brake_end {m : Mc} (hm : m.ok) {t : Sta} {b : Int} (h1 : 0 ≤ b) (h2 : b ≤ 2) {j : Nat} {s : Sta} (hs : BrakeI m t b j s) (hj : (j : Int) = m.fea + m.lim) : s.restsB m = true := by
  have hf := hm.fea
  have hl := hm.lim
  have g0 := hs.rng.speed
  have g1 := hs.rng.p0
  have g2 := hs.rng.p1
  have g3 := hs.rng.p2
  have a1 := hs.slow (by omega)
  have a2 := hs.n0
  have a3 := hs.n1
  have a4 := hs.n2
  have hsp : s.speed = 0 := by omega
  unfold Sta.restsB
  rw [hsp]
  have : atA m.fea [s.p0, s.p1, s.p2] ≥ 2 := by
    have c : (b = 0 ∧ s.p1 = m.fea ∧ s.p2 = m.fea) ∨ (b = 1 ∧ s.p0 = m.fea ∧ s.p2 = m.fea) ∨ (b = 2 ∧ s.p0 = m.fea ∧ s.p1 = m.fea) := by
      obtain e | e | e : b = 0 ∨ b = 1 ∨ b = 2 := by omega
      · left; exact ⟨e, by omega, by omega⟩
      · right; left; exact ⟨e, by omega, by omega⟩
      · right; right; exact ⟨e, by omega, by omega⟩
    simp only [atA]
    rcases c with ⟨_, e1, e2⟩ | ⟨_, e1, e2⟩ | ⟨_, e1, e2⟩ <;> rw [e1, e2] <;> simp <;> split <;> omega
  rw [decide_eq_true this]; rfl

theorem fire {f : Nat → Bool} (h0 : f 0 = false) (h1 : f 1 = false) (h2 : f 2 = false) (h3 : f 3 = false) (h5 : f 5 = false) (h6 : f 6 = false) : firstT f 7 0 = bif f 4 then 5 else 0 := by
  simp only [firstT]
  rw [h0, h1, h2, h3, h5, h6]
  cases f 4 <;> rfl

theorem rest_allowed {m : Mc} {s : Sta} (h : s.mode = sStop) : s.allowedN m (plainA sRest) = bif s.restsB m then 0 else 5 := by
  have e : s.allowedN m (plainA sRest) = firstT (s.ruleN m (plainA sRest)) 7 0 := rfl
  have k0 : eqS sRest sStart = false := kinds_ne (eqS_iff.2 rfl) (by decide)
  have k1 : eqS sRest sRepair = false := kinds_ne (eqS_iff.2 rfl) (by decide)
  have k2 : eqS sRest sTick = false := kinds_ne (eqS_iff.2 rfl) (by decide)
  have k3 : eqS sRest sStop = false := kinds_ne (eqS_iff.2 rfl) (by decide)
  have k4 : eqS sRest ByteArray.empty = false := kinds_ne (eqS_iff.2 rfl) (by decide)
  have k5 : eqS sRest sBrake = false := kinds_ne (eqS_iff.2 rfl) (by decide)
  rw [e, fire]
  · show (bif inK sRest sRest ByteArray.empty && s.rule5 m then (5 : Int) else 0) = _
    rw [inK_eq, eq_self, Bool.true_or, Bool.true_and]
    unfold Sta.rule5 Sta.restsB
    by_cases hs : s.speed = 0
    · rw [hs]
      by_cases ha : atA m.fea [s.p0, s.p1, s.p2] < 2
      · rw [decide_eq_true ha, decide_eq_false (show ¬ atA m.fea [s.p0, s.p1, s.p2] ≥ 2 by omega)]; rfl
      · rw [decide_eq_false ha, decide_eq_true (show atA m.fea [s.p0, s.p1, s.p2] ≥ 2 by omega)]; rfl
    · rw [show (s.speed != 0) = true by simpa using hs, show (s.speed == 0) = false by simpa using hs]; rfl
  · show (inK sRest sStart sRepair && _) = false
    rw [inK_eq, k0, k1]; rfl
  · show (inK sRest sTick sStop && _) = false
    rw [inK_eq, k2, k3]; rfl
  · show (inK sRest sBrake sRest && (!eqS s.mode sStop)) = false
    rw [h, eq_self]; simp
  · show (inK sRest sStart ByteArray.empty && _) = false
    rw [inK_eq, k0, k4]; rfl
  · show (inK sRest sTick sBrake && _) = false
    rw [inK_eq, k2, k5]; rfl
  · show (inK sRest sTick sBrake && _) = false
    rw [inK_eq, k2, k5]; rfl

theorem brake_allowed {m : Mc} {s : Sta} (h : s.mode = sStop) {w k b : Int} (hk : k = b ∨ k = -1) (hst : s.stuck = -1 ∨ s.stuck = b) (hl : (s.brakedW m w k).speed ≤ m.lim) : s.allowedN m ⟨sBrake, w, 0, 0, k⟩ = 0 ∧ s.behindW m ⟨sBrake, w, 0, 0, k⟩ = s.brakedW m w k := by
  have k0 : eqS sBrake sStart = false := kinds_ne (eqS_iff.2 rfl) (by decide)
  have k1 : eqS sBrake sRepair = false := kinds_ne (eqS_iff.2 rfl) (by decide)
  have k2 : eqS sBrake sTick = false := kinds_ne (eqS_iff.2 rfl) (by decide)
  have k3 : eqS sBrake sStop = false := kinds_ne (eqS_iff.2 rfl) (by decide)
  have k4 : eqS sBrake ByteArray.empty = false := kinds_ne (eqS_iff.2 rfl) (by decide)
  have k5 : eqS sBrake sRest = false := kinds_ne (eqS_iff.2 rfl) (by decide)
  have eb : s.behindW m ⟨sBrake, w, 0, 0, k⟩ = s.brakedW m w k := by
    unfold Sta.behindW
    simp only
    rw [k0, k2, k3, eq_self]; rfl
  refine ⟨?_, eb⟩
  have e : s.allowedN m ⟨sBrake, w, 0, 0, k⟩ = firstT (s.ruleN m ⟨sBrake, w, 0, 0, k⟩) 7 0 := rfl
  rw [e, fire]
  · show (bif inK sBrake sRest ByteArray.empty && _ then (5 : Int) else 0) = 0
    rw [inK_eq, k5, k4]; rfl
  · show (inK sBrake sStart sRepair && _) = false
    rw [inK_eq, k0, k1]; rfl
  · show (inK sBrake sTick sStop && _) = false
    rw [inK_eq, k2, k3]; rfl
  · show (inK sBrake sBrake sRest && (!eqS s.mode sStop)) = false
    rw [h, eq_self sStop]; simp
  · show (inK sBrake sStart ByteArray.empty && _) = false
    rw [inK_eq, k0, k4]; rfl
  · show (inK sBrake sTick sBrake && s.rule6 ⟨sBrake, w, 0, 0, k⟩) = false
    have : s.rule6 ⟨sBrake, w, 0, 0, k⟩ = false := by
      unfold Sta.rule6
      rcases hk with rfl | rfl
      · rcases hst with e | e <;> rw [e] <;> simp
      · simp
    rw [this]; simp
  · show (inK sBrake sTick sBrake && s.rule7 m ⟨sBrake, w, 0, 0, k⟩ fun i => (s.behindW m ⟨sBrake, w, 0, 0, k⟩).num m i) = false
    have : (s.rule7 m ⟨sBrake, w, 0, 0, k⟩ fun i => (s.behindW m ⟨sBrake, w, 0, 0, k⟩).num m i) = false := by
      unfold Sta.rule7
      rw [eb, decide_eq_false (show ¬ (s.brakedW m w k).speed > m.lim by omega)]
      show (false || (eqS sBrake sTick && _)) = false
      rw [k2]; rfl
    rw [this]; simp

theorem stop_allowed {m : Mc} {s : Sta} (h : s.mode = sRun) : s.allowedN m (plainA sStop) = 0 ∧ s.behindW m (plainA sStop) = { s with mode := sStop, tor := 0 } := by
  have k0 : eqS sStop sStart = false := kinds_ne (eqS_iff.2 rfl) (by decide)
  have k1 : eqS sStop sRepair = false := kinds_ne (eqS_iff.2 rfl) (by decide)
  have k2 : eqS sStop sTick = false := kinds_ne (eqS_iff.2 rfl) (by decide)
  have k3 : eqS sStop sBrake = false := kinds_ne (eqS_iff.2 rfl) (by decide)
  have k4 : eqS sStop ByteArray.empty = false := kinds_ne (eqS_iff.2 rfl) (by decide)
  have k5 : eqS sStop sRest = false := kinds_ne (eqS_iff.2 rfl) (by decide)
  refine ⟨?_, ?_⟩
  · have e : s.allowedN m (plainA sStop) = firstT (s.ruleN m (plainA sStop)) 7 0 := rfl
    rw [e, fire]
    · show (bif inK sStop sRest ByteArray.empty && _ then (5 : Int) else 0) = 0
      rw [inK_eq, k5, k4]; rfl
    · show (inK sStop sStart sRepair && _) = false
      rw [inK_eq, k0, k1]; rfl
    · show (inK sStop sTick sStop && (!eqS s.mode sRun)) = false
      rw [h, eq_self sRun]; simp
    · show (inK sStop sBrake sRest && _) = false
      rw [inK_eq, k3, k5]; rfl
    · show (inK sStop sStart ByteArray.empty && _) = false
      rw [inK_eq, k0, k4]; rfl
    · show (inK sStop sTick sBrake && _) = false
      rw [inK_eq, k2, k3]; rfl
    · show (inK sStop sTick sBrake && _) = false
      rw [inK_eq, k2, k3]; rfl
  · unfold Sta.behindW
    show (bif eqS sStop sStart then _ else bif eqS sStop sTick then _ else bif eqS sStop sStop then _ else _) = _
    rw [k0, k2, eq_self sStop]; rfl

theorem plain_err {m : Mc} (hm : m.ok) {k : ByteArray} (h : hasW k kindsL = true) (hf : (plainA k).formB = true) : (plainA k).err m = 0 := by
  obtain ⟨h1, h2, h3, h4, h5, h6, h7, h8⟩ := hm
  rw [Ac.err_split, Mc.err_of ⟨h1, h2, h3, h4, h5, h6, h7, h8⟩, show hasW (plainA k).kind kindsL = true from h]
  unfold Ac.e5
  rw [hf]
  rw [show ∀ x, orE 0 x = x from fun x => orE_no rfl, show ∀ x, orE (bif !true then 13 else 0) x = x from fun x => orE_no rfl, orL_zero]
  simp only [List.mem_cons, List.not_mem_nil, or_false, forall_eq_or_imp, forall_eq, withinS_zero]
  exact ⟨⟨Int.le_refl _, by show (0 : Int) ≤ _; omega⟩, ⟨Int.le_refl _, by show (0 : Int) ≤ _; omega⟩, ⟨Int.le_refl _, by show (0 : Int) ≤ _; omega⟩, ⟨by show (-1 : Int) ≤ -1; decide, by show (-1 : Int) ≤ 2; decide⟩, rfl⟩

theorem brake_act {m : Mc} (hm : m.ok) {w k : Int} (hw : 0 ≤ w ∧ w ≤ m.wind) (hk : -1 ≤ k ∧ k ≤ 2) : (Ac.mk sBrake w 0 0 k).err m = 0 := by
  have hf := hm.fea
  have ht := hm.tor
  have k2 : eqS sBrake sTick = false := kinds_ne (eqS_iff.2 rfl) (by decide)
  have h1 : hasW sBrake kindsL = true := by
    unfold kindsL hasW
    rw [eq_self]; rfl
  have h2 : (Ac.mk sBrake w 0 0 k).formB = true := by
    unfold Ac.formB
    show (bif eqS sBrake sTick then true else bif !eqS sBrake sBrake then _ else _) = true
    rw [k2, eq_self]; rfl
  rw [Ac.err_split, Mc.err_of hm, show hasW (Ac.mk sBrake w 0 0 k).kind kindsL = true from h1]
  unfold Ac.e5
  rw [h2]
  rw [show ∀ x, orE 0 x = x from fun x => orE_no rfl, show ∀ x, orE (bif !true then 13 else 0) x = x from fun x => orE_no rfl, orL_zero]
  simp only [List.mem_cons, List.not_mem_nil, or_false, forall_eq_or_imp, forall_eq, withinS_zero]
  exact ⟨hw, ⟨Int.le_refl _, by omega⟩, ⟨Int.le_refl _, ht.1⟩, hk, rfl⟩

theorem rest_act {m : Mc} (hm : m.ok) : (plainA sRest).err m = 0 := by
  refine plain_err hm ?_ ?_
  · unfold kindsL
    simp only [hasW]
    rw [eq_self sRest]
    cases eqS sBrake sRest <;> cases eqS sRepair sRest <;> rfl
  · have a : eqS sRest sTick = false := kinds_ne (eqS_iff.2 rfl) (by decide)
    have b : eqS sRest sBrake = false := kinds_ne (eqS_iff.2 rfl) (by decide)
    unfold Ac.formB
    show (bif eqS sRest sTick then true else bif !eqS sRest sBrake then _ else _) = true
    rw [a, b]; rfl
theorem stop_act {m : Mc} (hm : m.ok) : (plainA sStop).err m = 0 := by
  refine plain_err hm ?_ ?_
  · unfold kindsL
    simp only [hasW]
    rw [eq_self sStop]
    cases eqS sBrake sStop <;> cases eqS sRepair sStop <;> cases eqS sRest sStop <;> cases eqS sStart sStop <;> rfl
  · have a : eqS sStop sTick = false := kinds_ne (eqS_iff.2 rfl) (by decide)
    have b : eqS sStop sBrake = false := kinds_ne (eqS_iff.2 rfl) (by decide)
    unfold Ac.formB
    show (bif eqS sStop sTick then true else bif !eqS sStop sBrake then _ else _) = true
    rw [a, b]; rfl

theorem c_NextOk (up : List Ces) {gl : Nat → IV} (hk : gl g_control_kinds = kindsI) (m : Mc) (s : Sta) (a : Ac) (hs : s.err m = 0) (ha : a.err m = 0) : Cs gl n_control_Next up [m.iv, s.iv, a.iv] (bif s.allowedN m a != 0 then .tup [Sta.zero.iv, .int .i64 19] else .tup [(s.behindW m a).iv, .int .i64 0]) up := by
  have h := c_Next (gl := gl) up hk m s a
  unfold nextR actE at h
  rw [hs, ha] at h
  exact h
end Go.Proofs.YtkdlegfakefjgaaGreatDoor.Ix
