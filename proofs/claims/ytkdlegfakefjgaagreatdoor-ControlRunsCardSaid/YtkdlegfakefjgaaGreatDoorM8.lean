/-
  Cs2: the contract of Print: a loop that writes into a builder, walked at the model's level; what lies between the writings by pieces.
-/
import Derived.Test.YtkdlegfakefjgaaGreatDoorM7
import Derived.MakeChecks
import Derived.Test.YtkdlegfakefjgaaGreatDoorRows
import Derived.Test.YtkdlegfakefjgaaGreatDoorTie
import Derived.Test.YtkdlegfakefjgaaGreatDoorCards
import Derived.ProofKit
import Derived.OpenShut
import Derived.LaidMore
import Derived.Stop.Joined
import Derived.SevenTiedAt
namespace Go.Proofs.YtkdlegfakefjgaaGreatDoor.Ix
open Go.Proofs
set_option maxRecDepth 100000
set_option linter.unusedVariables false
set_option linter.unusedSimpArgs false
variable {gl : Nat → IV}

noncomputable abbrev Γp (gl : Nat → IV) : Env := ⟨prog, T, gl, 48, Vis prog gl, none, some []⟩

set_option maxHeartbeats 400000 in
theorem c_PrintOk (up : List Ces) (hk : gl g_control_kinds = kindsI) (hg : gl g_internal_strconv_uint64pow10 = powI) (n : Nat) (hn : n ≤ 10000000) (l : Nat → Ac) (h0 : actsE n l = 0) :
    Cs gl n_control_Print up [.lst none 5 n fun i => (l i).cs] (.tup [.str (bytesS (actsS l n)), .int .i64 0]) up := by
  refine comp_of_below h_control_Print rfl rfl fun vals w0 I X β σ m hlen ha => ?_
  obtain ⟨v0, rfl⟩ := one_arg hlen
  obtain ⟨hn2, hok⟩ := actsE_ok h0
  have hv0 : D I (.lst none 5 n fun i => (l i).cs) v0 := by
    have h := ha 0 _ rfl
    cases h with
    | data h => exact h
  refine (callsIn_wide (n := 1)).1 (callsIn_of_wp_marks (F := Fw none) h_control_Print rfl trivial ?_)
  have P := fun {c d : Code} {tm : Tms} {K : St → Prop} {R : Exit → Act → World → Prop} (hnr : noRange c = true) (h : iwp (Cs gl) (Γp gl) c (nrm K) ⟨tm, [], []⟩) {a : Act} {w : World} (hb : Go.RowKit.Below w0.heap.size w0 w)
    (htm : ∀ i, V I (fun _ _ => none) noSig (look tm i) (a.tmps.getD i undef)) (hnt : 48 ≤ a.tmps.size) (hd : a.defers = []) hk =>
    piece_seq (n := 1) (d := d) (R := R) (Γ := Γp gl) mixed0 tok0 ⟨fun _ _ _ _ _ h => h, rfl⟩ rfl hnr h (m.below hb).im m.glo (m.below hb).gz htm hnt hd hk
  refine P (K := fun _ => True) (tm := []) ?_ ?_ (.refl _ _) (fun i => .data (.dead _)) ?_ ?_ ?_
  · rfl
  · conv => whnf
    trivial
  · show 48 ≤ (#[v0] ++ Array.replicate 47 undef).size
    simp
  · rfl
  intro a1 w1 _ b1 d1 z1 f1
  have g0 : (#[v0] ++ Array.replicate (48 - #[v0].size) undef).getD 0 undef = v0 := by simp [Array.getD_eq_getD_getElem?]
  have g1 : a1.tmps.getD 0 undef = v0 := (f1 0 (by rfl)).trans g0
  have hp := fun up => c_printable (gl := gl) up hk n hn l
  rw [h0] at hp
  refine P (K := fun _ => True) (tm := [(0, .lst none 5 n fun i => (l i).cs)]) ?_ ?_ b1 ?_ z1 d1 ?_
  · rfl
  · conv => whnf
    repeat first
      | (refine DRAW.seek ?_; repeat (first | refine TRYD.take ?_ | refine TRYD.next ?_); conv => whnf)
      | (refine HOLD.mk (by first | exact trivial | exact ⟨⟨rfl, rfl⟩, trivial⟩ | exact ⟨⟨rfl, rfl⟩, ⟨rfl, rfl⟩, trivial⟩) ?_; (conv => whnf))
      | (refine CALL0.by (hp ..) rfl ?_; conv => whnf)
      | (refine CALLQ.mk _ _ _ (leL_refl _) (hp ..) rfl ?_; conv => whnf)
    trivial
  · intro i
    rw [look_cons]
    split
    · rename_i e; subst e; rw [g1]; exact .data hv0
    · exact .data (.dead _)
  intro a2 w2 _ b2 d2 z2 f2
  have g2 : a2.tmps.getD 0 undef = v0 := (f2 0 (by rfl)).trans g1
  replace b2 := b1.trans (b2.mono b1.size)
  clear f1 f2 g1 z1 d1
  -- the builder
  refine wpIn_seq (wpIn_region ?_)
  refine op_val (o := { dst := some 5, op := Op.alloc 168, type := 0, pos := "act.go:237", after := #[], guard := none }) rfl rfl (fun c e => by cases e) (v := .pointer (some ⟨w2.heap.size, 0, none⟩)) (w2 := w2.alloc (.cells #[.pointer none, .slice none 0 0] 168)) ?_ ?_
  · have hz : (prog.info? 168).map (fun i => i.zero) = some (some (.agg #[.pointer none, .slice none 0 0])) := by kernel_rfl
    cases hi : prog.info? 168 with
    | none => rw [hi] at hz; cases hz
    | some inf =>
      rw [hi] at hz
      have hz : inf.zero = some (.agg #[.pointer none, .slice none 0 0]) := by simpa using hz
      show (execOp a2.eval { dst := some 5, op := Op.alloc 168, type := 0, pos := "act.go:237", after := #[], guard := none }).run prog w2 = _
      simp [execOp, Instr.alloc, zeroValue, typeInfo, hi, hz, newVar, newRow, Value.cells]
  have hbld : Go.Lib.IsBuilder 168 5 w0.heap.size w2.heap.size [] (w2.alloc (.cells #[.pointer none, .slice none 0 0] 168)) :=
    .inl ⟨b2.size, .slice none 0 0, World.alloc_heap_new _ _, ⟨rfl, .inl ⟨rfl, rfl⟩⟩, by simp [Value.ownBlock]⟩
  have b3 := b2.alloc b2.size (.cells #[.pointer none, .slice none 0 0] 168)
  generalize hb : w2.heap.size = b at hbld
  generalize w2.alloc (.cells #[.pointer none, .slice none 0 0] 168) = w3 at hbld b3
  have hg3 : (a2.put (some 5) (.pointer (some ⟨b, 0, none⟩))).tmps.getD 0 undef = v0 := (put_other (by decide)).trans g2
  have hz3 : 48 ≤ (a2.put (some 5) (.pointer (some ⟨b, 0, none⟩))).tmps.size := by rw [put_size]; exact z2
  have hd3 : (a2.put (some 5) (.pointer (some ⟨b, 0, none⟩))).defers = [] := d2
  have hp3 : (a2.put (some 5) (.pointer (some ⟨b, 0, none⟩))).tmps.getD 5 undef = .pointer (some ⟨b, 0, none⟩) := put_same (Nat.lt_of_lt_of_le (show 5 < 48 by decide) z2)
  show Code.wpIn (Fw none) 1 prog _ _ (a2.put (some 5) (.pointer (some ⟨b, 0, none⟩))) w3
  generalize a2.put (some 5) (.pointer (some ⟨b, 0, none⟩)) = a3 at hg3 hz3 hd3 hp3
  clear b2 d2 z2 g2
  let LI : Nat → Act → World → Prop := fun k a w => Go.RowKit.Below w0.heap.size w0 w ∧ a.defers = [] ∧ 48 ≤ a.tmps.size ∧ a.tmps.getD 15 undef = v0 ∧ a.tmps.getD 16 undef = .int .i64 n ∧ a.tmps.getD 17 undef = .int .i64 k ∧
    a.tmps.getD 5 undef = .pointer (some ⟨b, 0, none⟩) ∧ Go.Lib.IsBuilder 168 5 w0.heap.size b (Go.Lib.byteCells (actsS l k)) w
  obtain ⟨p0, c0, hvs⟩ : ∃ p c, v0 = .slice p n c := by
    cases hv0 with
    | lstN => exact ⟨_, _, rfl⟩
    | lst => exact ⟨_, _, rfl⟩
  refine wpIn_seq (wpIn_seq (wpIn_region ?_))
  refine op_val rfl rfl (fun c e => by cases e) (v := v0) (w2 := w3) ?_ ?_
  · show Result.ok (Next.value (a3.tmps.getD 0 undef)) w3 = _
    rw [hg3]
  have hl : (a3.put (some 15) v0).tmps.getD 15 undef = v0 := put_same (Nat.lt_of_lt_of_le (by decide) hz3)
  refine op_val rfl rfl (fun c e => by cases e) (v := .int .i64 n) (w2 := w3) ?_ ?_
  · have hu : prog.underlying 71 = some (.slice 50) := by kernel_rfl
    have hlt : 15 < a3.tmps.size := Nat.lt_of_lt_of_le (by decide) hz3
    simp [execOp, resolve, invoke, go_sem, hlt, hvs, Builtin.len_, run_underlying hu, goInt]
  refine op_val rfl rfl (fun c e => by cases e) (v := .int .i64 0) (w2 := w3) rfl ?_
  simp only [wpOpsIn]
  show Code.wpIn (Fw none) 1 prog _ _ (((a3.put (some 15) v0).put (some 16) (.int .i64 n)).put (some 17) (.int .i64 0)) w3
  have hLI : LI 0 (((a3.put (some 15) v0).put (some 16) (.int .i64 n)).put (some 17) (.int .i64 0)) w3 := by
    refine ⟨b3, hd3, by simp only [put_size]; exact hz3, ?_, ?_, put_same (by simp only [put_size]; omega), ?_, hbld⟩
    · rw [put_other (by decide), put_other (by decide)]; exact hl
    · rw [put_other (by decide)]; exact put_same (by simp only [put_size]; omega)
    · rw [put_other (by decide), put_other (by decide), put_other (by decide)]; exact hp3
  refine wpIn_block (wpIn_loop_from (α := {k : Nat // k ≤ n}) (fun k => LI k.1) (fun k => n - k.1) ⟨0, Nat.zero_le _⟩ hLI ?_)
  clear hLI hl hp3 hd3 hz3 hg3 hbld b3
  rintro ⟨k, hkn⟩ a w ⟨b1, d1, z1, q15, q16, q17, q5, hB⟩
  refine P (K := fun S => S = ⟨[(18, .bool (decide ((k : Int) < n))), (17, .int .i64 k), (16, .int .i64 n)], [], []⟩) (tm := [(17, .int .i64 k), (16, .int .i64 n)]) ?_ ?_ b1 ?_ z1 d1 ?_
  · rfl
  · conv => whnf
  · intro i
    rw [look_cons]
    split
    · rename_i e; subst e; rw [q17]; exact .data (.int _ _)
    · rw [look_cons]
      split
      · rename_i e; subst e; rw [q16]; exact .data (.int _ _)
      · exact .data (.dead _)
  rintro a1 w1 ⟨S', I', β', σ', rfl, ht⟩ b2 d2 z2 f2
  have t18 : a1.tmps.getD 18 undef = .bool (decide ((k : Int) < n)) := (ht 18).bool_inv
  replace q15 := (f2 15 (by rfl)).trans q15
  replace q16 := (f2 16 (by rfl)).trans q16
  replace q17 := (f2 17 (by rfl)).trans q17
  replace q5 := (f2 5 (by rfl)).trans q5
  replace hB := builder_below hB b2
  replace b2 := b1.trans (b2.mono b1.size)
  clear ht f2 b1 d1 z1 I' β' σ'
  by_cases hlt : k < n
  · rw [decide_eq_true (by omega : (k : Int) < n)] at t18
    refine wpIn_seq (wpIn_cond t18 (wpIn_skip ?_))
    show Code.wpIn (Fw none) 1 prog _ _ a1 w1
    refine wpIn_seq (wpIn_block ?_)
    refine round5 (Γ := Γp gl) (C := Cs gl) (K := fun S => look S.tm 44 = .str (bytesS (l k).line)) (tm := [(17, .int .i64 k), (16, .int .i64 n), (15, .lst none 5 n fun i => (l i).cs)]) mixed0 tok0 ⟨fun _ _ _ _ _ h => h, rfl⟩ rfl ?_ ?_ ?_ ?_ ?_ ?_ (m.below b2).im m.glo (m.below b2).gz ?_ z2 d2 ?_
    · exact List.cons_ne_nil _ _
    · rfl
    · rfl
    · rfl
    · rfl
    · have q : decide ((k : Int) < n) = true := decide_eq_true (by omega)
      have hA := hok k hlt
      have hI := fun (up : List Ces) (x : Int) (h : 0 ≤ x ∧ x ≤ 100) => c_Itoa (gl := gl) up hg x ⟨by omega, by omega⟩
      have hM : ∀ up, Cs gl n_control_mapped_int_string up [.lst none 1 3 (litF 1 [.int .i64 (l k).wind, .int .i64 (l k).pitch, .int .i64 (l k).tor]), .fn n_strconv_Itoa [] []] (.lst (some 19) 1 3 fun i => [.str (bytesS (Go.Lib.itoa ([(l k).wind, (l k).pitch, (l k).tor].getD i 0)))]) up := fun up => by
        refine Comp.le ?_ (c_mappedS (gl := gl) up 3 (by decide) (fun i => [(l k).wind, (l k).pitch, (l k).tor].getD i 0) (fun i => bytesS (Go.Lib.itoa ([(l k).wind, (l k).pitch, (l k).tor].getD i 0))) n_strconv_Itoa fun up i hi => hI up _ ?_)
        · refine ⟨⟨.inl rfl, rfl, rfl, fun i hi => ?_⟩, leV_refl _, trivial⟩
          match i, hi with
          | 0, _ => rfl
          | 1, _ => rfl
          | 2, _ => rfl
        · match i, hi with
          | 0, _ => exact hA.wind
          | 1, _ => exact hA.pitch
          | 2, _ => exact hA.tor
      have hJ : ∀ up, Cs gl n_strings_Join up [.lst none 1 5 fun i => [.str (bytesS ((l k).words.getD i []))], .str (bytesS [32])] (.str (bytesS (Go.Lib.join (l k).words [32]))) up := fun up => by
        have := c_Join (gl := gl) up 5 (fun i => [.str (bytesS ((l k).words.getD i []))]) (fun i => (l k).words.getD i []) [32] (fun i hi => rfl) (by decide) (by
          show (Go.Lib.join (l k).words [32]).length ≤ _
          have := line_len hA
          rw [line_eq, List.length_append] at this
          omega)
        exact this
      have hlen : (Go.Lib.join (l k).words [32]).length ≤ 110 := by
        have := line_len hA
        rw [line_eq, List.length_append] at this
        omega
      have hlen2 : decide ((bytesS (Go.Lib.join (l k).words [32])).size + (bytesS [10]).size ≤ 1099511627776) = true := decide_eq_true (by rw [bytesS_size, bytesS_size]; simp only [List.length_cons, List.length_nil]; omega)
      have hI4 := fun up => hI up (l k).stuck
      cases qs : ((l k).stuck != -1) with
      | true =>
        have hst : 0 ≤ (l k).stuck ∧ (l k).stuck ≤ 100 := by
          have := hA.stuck
          have : (l k).stuck ≠ -1 := by simpa using qs
          omega
        have hI4 := fun up => hI up (l k).stuck hst
        have hb : (l k).blade = Go.Lib.itoa (l k).stuck := by unfold Ac.blade; rw [qs]; rfl
        conv => whnf
        split
        rotate_left
        · rename_i h
          exact Bool.noConfusion ((q).symm.trans h)
        rename_i hN
        clear hN
        conv => whnf
        repeat first
          | (refine DRAW.seek ?_; repeat (first | refine TRYD.take ?_ | refine TRYD.next ?_); conv => whnf)
          | (refine HOLD.mk (by first | exact trivial | exact ⟨⟨rfl, rfl⟩, trivial⟩ | exact ⟨⟨rfl, rfl⟩, ⟨rfl, rfl⟩, trivial⟩) ?_; (conv => whnf))
          | (refine CALL0.by (hM ..) rfl ?_; conv => whnf)
          | (refine CALLQ.mk _ _ _ (leL_refl _) (hM ..) rfl ?_; conv => whnf)
        split
        rotate_left
        · rename_i h
          exact Bool.noConfusion ((qs).symm.trans h)
        rename_i hN
        clear hN
        conv => whnf
        repeat first
          | (refine DRAW.seek ?_; repeat (first | refine TRYD.take ?_ | refine TRYD.next ?_); conv => whnf)
          | (refine HOLD.mk (by first | exact trivial | exact ⟨⟨rfl, rfl⟩, trivial⟩ | exact ⟨⟨rfl, rfl⟩, ⟨rfl, rfl⟩, trivial⟩) ?_; (conv => whnf))
          | (refine CALL0.by (hI4 ..) rfl ?_; conv => whnf)
          | (refine CALLQ.mk _ _ _ (leL_refl _) (hI4 ..) rfl ?_; conv => whnf)
        refine .mk _ _ _ _ _ ?_ (hJ _) rfl ?_
        · refine ⟨⟨.inl rfl, rfl, rfl, fun i hi => ?_⟩, leV_refl _, trivial⟩
          match i, hi with
          | 0, _ => show [IV.str (l k).kind] = [.str (bytesS (l k).kind.data.toList)]; rw [bytesS_mk]
          | 1, _ => rfl
          | 2, _ => rfl
          | 3, _ => rfl
          | 4, _ => show [IV.str _] = [.str (bytesS (l k).blade)]; rw [hb]
        conv => whnf
        split
        rotate_left
        · rename_i h
          exact Bool.noConfusion ((hlen2).symm.trans h)
        rename_i hN
        clear hN
        conv => whnf
        show IV.str (bytesS (Go.Lib.join (l k).words [32]) ++ bytesS [10]) = .str (bytesS (l k).line)
        rw [bytesS_append, line_eq]
      | false =>
        have hb : (l k).blade = [45] := by unfold Ac.blade; rw [qs]; rfl
        conv => whnf
        split
        rotate_left
        · rename_i h
          exact Bool.noConfusion ((q).symm.trans h)
        rename_i hN
        clear hN
        conv => whnf
        repeat first
          | (refine DRAW.seek ?_; repeat (first | refine TRYD.take ?_ | refine TRYD.next ?_); conv => whnf)
          | (refine HOLD.mk (by first | exact trivial | exact ⟨⟨rfl, rfl⟩, trivial⟩ | exact ⟨⟨rfl, rfl⟩, ⟨rfl, rfl⟩, trivial⟩) ?_; (conv => whnf))
          | (refine CALL0.by (hM ..) rfl ?_; conv => whnf)
          | (refine CALLQ.mk _ _ _ (leL_refl _) (hM ..) rfl ?_; conv => whnf)
        split
        · rename_i h
          exact Bool.noConfusion ((qs).symm.trans h)
        rename_i hN
        clear hN
        conv => whnf
        refine .mk _ _ _ _ _ ?_ (hJ _) rfl ?_
        · refine ⟨⟨.inl rfl, rfl, rfl, fun i hi => ?_⟩, leV_refl _, trivial⟩
          match i, hi with
          | 0, _ => show [IV.str (l k).kind] = [.str (bytesS (l k).kind.data.toList)]; rw [bytesS_mk]
          | 1, _ => rfl
          | 2, _ => rfl
          | 3, _ => rfl
          | 4, _ => show [IV.str _] = [.str (bytesS (l k).blade)]; rw [hb]
        conv => whnf
        split
        rotate_left
        · rename_i h
          exact Bool.noConfusion ((hlen2).symm.trans h)
        rename_i hN
        clear hN
        conv => whnf
        show IV.str (bytesS (Go.Lib.join (l k).words [32]) ++ bytesS [10]) = .str (bytesS (l k).line)
        rw [bytesS_append, line_eq]
    · intro i
      rw [look_cons]
      split
      · rename_i e; subst e; rw [q17]; exact .data (.int _ _)
      · rw [look_cons]
        split
        · rename_i e; subst e; rw [q16]; exact .data (.int _ _)
        · rw [look_cons]
          split
          · rename_i e; subst e; rw [q15]; exact .data hv0
          · exact .data (.dead _)
    · intro a3 w3 ⟨S', I', β', σ', hS, ht⟩ b3 d3 z3 f3
      have t44 : a3.tmps.getD 44 undef = .string (bytesS (l k).line) := by
        have h := ht 44
        rw [hS] at h
        exact h.str_inv
      replace q15 := (f3 15 (by rfl)).trans q15
      replace q16 := (f3 16 (by rfl)).trans q16
      replace q17 := (f3 17 (by rfl)).trans q17
      replace q5 := (f3 5 (by rfl)).trans q5
      replace hB := builder_below hB b3
      replace b3 := b2.trans (b3.mono b2.size)
      clear ht hS f3 b2 d2 z2 I' β' σ' S' t18
      refine op_call rfl rfl rfl rfl h_strings_Builder_WriteString rfl rfl ?_
      have hargs : (#[Operand.tmp 5, Operand.tmp 44].map a3.eval) = #[.pointer (some ⟨b, 0, none⟩), .string (bytesS (l k).line)] := by
        have e5 : a3.eval (.tmp 5) = _ := q5
        have e44 : a3.eval (.tmp 44) = _ := t44
        simp [e5, e44]
      show Calls prog 109 (#[Operand.tmp 5, Operand.tmp 44].map a3.eval) w3 _
      rw [hargs]
      refine (Any.Builder_WriteString { laysJoin with } extraJoin w0.heap.size b _ _ w3 hB ?_ b3.size).mono ?_
      · have h1 := actsS_len k fun i hi => hok i (by omega)
        have h2 := line_len (hok k hlt)
        show (Go.Lib.byteCells (actsS l k)).length + (bytesS (l k).line).size ≤ _
        rw [bytesS_size]
        unfold Go.Lib.byteCells
        rw [List.length_map]
        omega
      rintro e w4 ⟨rfl, hB4, b4⟩
      refine ⟨_, rfl, ?_⟩
      replace b4 := b3.trans b4
      have hB4 : Go.Lib.IsBuilder 168 5 w0.heap.size b (Go.Lib.byteCells (actsS l (k + 1))) w4 := by
        refine .inr ?_
        have e : Go.Lib.byteCells (actsS l (k + 1)) = Go.Lib.byteCells (actsS l k) ++ Go.Lib.strCells (bytesS (l k).line) := by
          show List.map _ (actsS l k ++ (l k).line) = _
          rw [List.map_append]; rfl
        rw [e]; exact hB4
      clear hB b3
      simp only [wpOpsIn]
      have z4 : 48 ≤ (a3.put (some 45) (.tuple #[.int .i64 ((bytesS (l k).line).size : Int), .nilIface])).tmps.size := by rw [put_size]; exact z3
      have d4 : (a3.put (some 45) (.tuple #[.int .i64 ((bytesS (l k).line).size : Int), .nilIface])).defers = [] := d3
      have p15 := (put_other (a := a3) (d := 45) (i := 15) (v := (.tuple #[.int .i64 ((bytesS (l k).line).size : Int), .nilIface])) (by decide)).trans q15
      have p16 := (put_other (a := a3) (d := 45) (i := 16) (v := (.tuple #[.int .i64 ((bytesS (l k).line).size : Int), .nilIface])) (by decide)).trans q16
      have p17 := (put_other (a := a3) (d := 45) (i := 17) (v := (.tuple #[.int .i64 ((bytesS (l k).line).size : Int), .nilIface])) (by decide)).trans q17
      have p5 := (put_other (a := a3) (d := 45) (i := 5) (v := (.tuple #[.int .i64 ((bytesS (l k).line).size : Int), .nilIface])) (by decide)).trans q5
      show Code.wpIn (Fw none) 1 prog _ _ (a3.put (some 45) (.tuple #[.int .i64 ((bytesS (l k).line).size : Int), .nilIface])) w4
      generalize a3.put (some 45) (.tuple #[.int .i64 ((bytesS (l k).line).size : Int), .nilIface]) = a4 at z4 d4 p15 p16 p17 p5
      clear q15 q16 q17 q5 t44 z3 d3 hargs
      have hw : w64 ((k : Int) + 1) = ((k + 1 : Nat) : Int) := by rw [w64, wrap_in] <;> omega
      refine wpIn_mono (piece (Γ := Γp gl) (Q := nrm fun S => look S.tm 17 = .int .i64 (k + 1 : Nat)) (tm := [(17, .int .i64 k)]) mixed0 tok0 ⟨fun _ _ _ _ _ h => h, rfl⟩ rfl ?_ ?_ (m.below b4).im m.glo (m.below b4).gz ?_ z4 d4) ?_
      · rfl
      · conv => whnf
        show IV.int .i64 (w64 ((k : Int) + 1)) = _
        rw [hw]
      · intro i
        rw [look_cons]
        split
        · rename_i e; subst e; rw [p17]; exact .data (.int _ _)
        · exact .data (.dead _)
      rintro e a5 w5 ⟨hq, b5, d5, z5, f5⟩
      cases e with
      | normal =>
        obtain ⟨S', I', β', σ', hS, ht⟩ := hq
        have hS : look S'.tm 17 = .int .i64 (k + 1 : Nat) := hS
        refine ⟨⟨k + 1, hlt⟩, ⟨b4.trans (b5.mono b4.size), d5, z5, (f5 15 (by rfl)).trans p15, (f5 16 (by rfl)).trans p16, ?_, (f5 5 (by rfl)).trans p5, builder_below hB4 b5⟩, ?_⟩
        · have h := ht 17
          rw [hS] at h
          exact h.int_inv
        · show n - (k + 1) < n - k
          omega
      | ret => obtain ⟨_, _, _, _, h, _⟩ := hq; exact h.elim
      | exit id => obtain ⟨_, _, _, _, h, _⟩ := hq; exact h.elim
      | goto l => exact hq.elim
      | panic c => exact hq.elim
      | outgrown => exact hq.elim
  · rw [decide_eq_false (by omega : ¬ (k : Int) < n)] at t18
    refine wpIn_seq (wpIn_cond t18 (wpIn_exit ?_))
    show Code.wpIn (Fw none) 1 prog _ _ a1 w1
    have : k = n := by omega
    subst this
    refine wpIn_seq (wpIn_region ?_)
    refine op_call rfl rfl rfl rfl h_strings_Builder_String rfl rfl ?_
    have hargs : (#[Operand.tmp 5].map a1.eval) = #[.pointer (some ⟨b, 0, none⟩)] := by
      have e5 : a1.eval (.tmp 5) = _ := q5
      simp [e5]
    show Calls prog 111 (#[Operand.tmp 5].map a1.eval) w1 _
    rw [hargs]
    refine (Any.Builder_String_any { laysJoin with } extraJoin w0.heap.size b _ w1 hB b2.size).mono ?_
    rintro e w4 ⟨rfl, b4⟩
    refine ⟨_, rfl, ?_⟩
    replace b4 := b2.trans b4
    have p47 : (a1.put (some 47) (.string (bytesS (actsS l k)))).tmps.getD 47 undef = .string (bytesS (actsS l k)) := put_same (Nat.lt_of_lt_of_le (show 47 < 48 by decide) z2)
    refine op_val rfl rfl (fun c e => by cases e) (v := .string (bytesS (actsS l k))) (w2 := w4) ?_ ?_
    · show Result.ok (Next.value ((a1.put (some 47) (.string (bytesS (actsS l k)))).tmps.getD 47 undef)) w4 = _
      rw [p47]
    refine op_val rfl rfl (fun c e => by cases e) (v := .int .i64 0) (w2 := w4) rfl ?_
    simp only [wpOpsIn]
    have p2 : (((a1.put (some 47) (.string (bytesS (actsS l k)))).put (some 2) (.string (bytesS (actsS l k)))).put (some 3) (.int .i64 0)).tmps.getD 2 undef = .string (bytesS (actsS l k)) := by
      rw [put_other (by decide)]
      exact put_same (by rw [put_size]; exact Nat.lt_of_lt_of_le (show 2 < 48 by decide) z2)
    have p3 : (((a1.put (some 47) (.string (bytesS (actsS l k)))).put (some 2) (.string (bytesS (actsS l k)))).put (some 3) (.int .i64 0)).tmps.getD 3 undef = .int .i64 0 := put_same (by rw [put_size, put_size]; exact Nat.lt_of_lt_of_le (show 3 < 48 by decide) z2)
    have pd : (((a1.put (some 47) (.string (bytesS (actsS l k)))).put (some 2) (.string (bytesS (actsS l k)))).put (some 3) (.int .i64 0)).defers = [] := d2
    show Code.wpIn (Fw none) 1 prog Code.ret _ (((a1.put (some 47) (.string (bytesS (actsS l k)))).put (some 2) (.string (bytesS (actsS l k)))).put (some 3) (.int .i64 0)) w4
    generalize (((a1.put (some 47) (.string (bytesS (actsS l k)))).put (some 2) (.string (bytesS (actsS l k)))).put (some 3) (.int .i64 0)) = a9 at p2 p3 pd
    refine wpIn_ret ?_
    show LeavesInM (Fw none) 1 prog f_control_Print a9.tmps _ a9.defers .returning w4
    rw [pd]
    refine ⟨.tuple #[.string (bytesS (actsS l k)), .int .i64 0], ?_, _, rfl, ?_, b4⟩
    · have hr : f_control_Print.results = #[.tmp 2, .tmp 3] := rfl
      rw [results_eq, hr]
      simp [resSem, p2, p3]
    · refine .tup _ _ rfl fun j x hx => ?_
      match j, hx with
      | 0, hx => simp at hx; subst hx; exact .str _
      | 1, hx => simp at hx; subst hx; exact .int _ _

theorem c_Print (up : List Ces) (hk : gl g_control_kinds = kindsI) (hg : gl g_internal_strconv_uint64pow10 = powI) (n : Nat) (hn : n ≤ 10000000) (l : Nat → Ac) :
    Cs gl n_control_Print up [.lst none 5 n fun i => (l i).cs] (bif actsE n l != 0 then .tup [.str (bytesS []), .int .i64 (actsE n l)] else .tup [.str (bytesS (actsS l n)), .int .i64 0]) up := by
  by_cases h0 : actsE n l = 0
  · have q : (actsE n l != 0) = false := by simpa using h0
    rw [q]
    exact c_PrintOk up hk hg n hn l h0
  · have q : (actsE n l != 0) = true := by simpa using h0
    rw [q]
    refine mk h_control_Print rfl rfl ?_
    have hp := fun up => c_printable (gl := gl) up hk n hn l
    conv => whnf
    repeat first
      | (refine DRAW.seek ?_; repeat (first | refine TRYD.take ?_ | refine TRYD.next ?_); conv => whnf)
      | (refine HOLD.mk (by first | exact trivial | exact ⟨⟨rfl, rfl⟩, trivial⟩ | exact ⟨⟨rfl, rfl⟩, ⟨rfl, rfl⟩, trivial⟩) ?_; (conv => whnf))
      | (refine CALL0.by (hp ..) rfl ?_; conv => whnf)
      | (refine CALLQ.mk _ _ _ (leL_refl _) (hp ..) rfl ?_; conv => whnf)
    split
    rotate_left
    · rename_i h
      exact Bool.noConfusion ((q).symm.trans h)
    rename_i hN
    clear hN
    conv => whnf
    exact ⟨rfl, rfl⟩
end Go.Proofs.YtkdlegfakefjgaaGreatDoor.Ix

/-
  Aw5: the package control returns the results of the examples: awake() is true.
-/
namespace Go.Proofs.YtkdlegfakefjgaaGreatDoor.Ix
open Go.Proofs
set_option maxRecDepth 100000
set_option linter.unusedVariables false
set_option linter.unusedSimpArgs false
variable {gl : Nat → IV}

def usM : Mc := ⟨10, 6, 2, 8, 40, 20, 1⟩
theorem us_ok : usM.ok := Mc.err_ok (by decide +kernel)
theorem us_fea : usM.fea ≤ 20 := by decide
def begA : Nat → Ac
  | 0 => ⟨sStart, 0, 0, 0, -1⟩
  | _ + 1 => ⟨sTick, 10, 0, 0, -1⟩

theorem c_usual (up : List Ces) : Cs gl n_nacellelaw05_usual up [] usM.iv up := by
  refine mk h_nacellelaw05_usual rfl rfl ?_
  conv => whnf
  exact ⟨rfl, rfl⟩

theorem c_begun (up : List Ces) : Cs gl n_nacellelaw05_begun up [] (.lst none 5 4 fun i => (begA i).cs) up := by
  have h : Cs gl n_nacellelaw05_begun up [] (.lst (some 5) 5 4 (litF 5 [.str sStart, .int .i64 0, .int .i64 0, .int .i64 0, .int .i64 (-1), .str sTick, .int .i64 10, .int .i64 0, .int .i64 0, .int .i64 (-1), .str sTick, .int .i64 10, .int .i64 0, .int .i64 0, .int .i64 (-1), .str sTick, .int .i64 10, .int .i64 0, .int .i64 0, .int .i64 (-1)])) up := by
    refine mk h_nacellelaw05_begun rfl rfl ?_
    conv => whnf
    exact ⟨rfl, rfl⟩
  refine h.res ⟨.inl rfl, rfl, rfl, fun i hi => ?_⟩
  match i, hi with
  | 0, _ => rfl
  | 1, _ => rfl
  | 2, _ => rfl
  | 3, _ => rfl

theorem beg_run : repE usM begA 4 0 = (0, 0) := by
  rw [repE_run us_ok us_fea begA 4 0 (begin_inv us_ok)]
  decide +kernel
theorem beg_e0 : repE0 usM 4 = 0 := by decide +kernel
theorem beg_s : repS usM begA 4 = ⟨sRun, 14, 0, 0, 0, 0, -1⟩ := by
  rw [rep_run]
  kernel_rfl

def stA (r : ByteArray) : Sta := ⟨r, 14, 0, 0, 0, 0, -1⟩

theorem a_Replay (up : List Ces) (hk : gl g_control_kinds = kindsI) (r : ByteArray) (hr : r = sRun) : Cs gl n_control_Replay up [usM.iv, .lst none 5 4 fun i => (begA i).cs] (.tup [(stA r).iv, .int .i64 0, .int .i64 0]) up := by
  have h := c_Replay (gl := gl) up hk usM 4 (by decide) begA
  rw [beg_e0, beg_run, beg_s] at h
  subst hr
  exact h

def spd : Nat → Int := fun i => [0, 0, 4, 14].getD i 0
theorem a_Speeds (up : List Ces) (hk : gl g_control_kinds = kindsI) : Cs gl n_control_Speeds up [usM.iv, .lst none 5 4 fun i => (begA i).cs] (.tup [.lst none 1 4 fun i => [.int .i64 (spd i)], .int .i64 0]) up := by
  have h := c_Speeds (gl := gl) up hk usM 4 (by decide) begA
  rw [beg_e0, beg_run] at h
  refine Comp.res (r := .tup [.lst (some 20) 1 4 fun i => [.int .i64 (repS usM begA (i + 1)).speed], .int .i64 0]) h ⟨⟨.inl rfl, rfl, rfl, fun i hi => ?_⟩, leV_refl _, trivial⟩
  show [IV.int .i64 (repS usM begA (i + 1)).speed] = [.int .i64 (spd i)]
  rw [rep_run]
  obtain rfl | rfl | rfl | rfl : i = 0 ∨ i = 1 ∨ i = 2 ∨ i = 3 := by omega
  all_goals kernel_rfl

def stpL (z : ByteArray) : List Sta := [⟨sStop, 14, 0, 0, 0, 0, 0⟩, ⟨sStop, 20, 0, 2, 2, 0, 0⟩, ⟨sStop, 22, 0, 4, 4, 0, 0⟩, ⟨sStop, 20, 0, 6, 6, 0, 0⟩, ⟨sStop, 18, 0, 6, 6, 0, 0⟩, ⟨sStop, 16, 0, 6, 6, 0, 0⟩, ⟨sStop, 14, 0, 6, 6, 0, 0⟩, ⟨sStop, 12, 0, 6, 6, 0, 0⟩, ⟨sStop, 10, 0, 6, 6, 0, 0⟩, ⟨sStop, 8, 0, 6, 6, 0, 0⟩, ⟨sStop, 6, 0, 6, 6, 0, 0⟩, ⟨sStop, 4, 0, 6, 6, 0, 0⟩, ⟨sStop, 2, 0, 6, 6, 0, 0⟩, ⟨sStop, 0, 0, 6, 6, 0, 0⟩]
def stp (z : ByteArray) (i : Nat) : Sta := (stpL z).getD i Sta.zero

theorem stA_rng : (stA sRun).rng usM := ⟨by decide, by decide, by decide, by decide⟩
theorem stA_err : (stA sRun).err usM = 0 := by
  rw [staErr_run]
  decide +kernel
theorem stA_run : (stA sRun).pk usM 0 = 22 ∧ (stA sRun).num usM 0 = 13 := by
  have h := pk_run us_ok (k := 0) (by decide) stA_rng (by decide) (mu_small us_ok us_fea stA_rng (by decide) _)
  have e : (stA sRun).runW usM 0 = (22, 13) := by kernel_rfl
  rw [e] at h
  exact h
theorem stA_takes : (stA sRun).takes usM 0 13 := by
  have h := (takes_num us_ok stA_rng (by decide) (stuck := 0) (by decide) (by decide)).1
  rw [stA_run.2] at h
  exact h

theorem stp_eq : ∀ i, i < 14 → (stA sRun).stopS usM 0 i = stp sStop i := by
  intro i hi
  obtain rfl | rfl | rfl | rfl | rfl | rfl | rfl | rfl | rfl | rfl | rfl | rfl | rfl | rfl : i = 0 ∨ i = 1 ∨ i = 2 ∨ i = 3 ∨ i = 4 ∨ i = 5 ∨ i = 6 ∨ i = 7 ∨ i = 8 ∨ i = 9 ∨ i = 10 ∨ i = 11 ∨ i = 12 ∨ i = 13 := by omega
  all_goals kernel_rfl

theorem eqSta_refl (s : Sta) : eqSta s s = true := by
  unfold eqSta
  rw [eqS_iff.2 rfl]
  simp

theorem a_Stop (up : List Ces) (r z : ByteArray) (hr : r = sRun) (hz : z = sStop) : Cs gl n_control_Stop up [usM.iv, (stA r).iv, .int .i64 0] (.tup [.lst none 7 14 fun i => (stp z i).cs, .int .i64 0]) up := by
  subst hr
  subst hz
  have h := c_Stop (gl := gl) up (stA sRun) usM 0 13 fun _ => ⟨stA_takes, by decide⟩
  have e0 : ((stA sRun).err0 usM 0 != 0) = false := by
    unfold Sta.err0
    rw [stA_err]
    decide
  have e1 : decide ((stA sRun).most usM 0 13 > usM.lim) = false := by
    have h := stA_run.1
    unfold Sta.pk at h
    rw [stA_run.2] at h
    rw [h]; decide
  unfold Sta.StopR at h
  rw [e0, e1, stopF_eq] at h
  refine Comp.res (r := .tup [.lst (some 25) 7 14 fun i => ((stA sRun).stopS usM 0 i).cs, .int .i64 0]) h ⟨⟨.inl rfl, rfl, rfl, fun i hi => ?_⟩, leV_refl _, trivial⟩
  show ((stA sRun).stopS usM 0 i).cs = (stp sStop i).cs
  rw [stp_eq i hi]

theorem a_Peak (up : List Ces) (r : ByteArray) (hr : r = sRun) : Cs gl n_control_Peak up [usM.iv, (stA r).iv, .int .i64 0] (.tup [.int .i64 22, .int .i64 13, .int .i64 0]) up := by
  subst hr
  have h := c_Peak (gl := gl) up (stA sRun) usM 0 13 fun _ => ⟨stA_takes, by decide⟩
  have e0 : ((stA sRun).err0 usM 0 != 0) = false := by
    unfold Sta.err0
    rw [stA_err]
    decide
  have e1 : (stA sRun).most usM 0 13 = 22 := by
    have h := stA_run.1
    unfold Sta.pk at h
    rwa [stA_run.2] at h
  unfold Sta.peakR at h
  rw [e0, e1] at h
  exact h

theorem a_CheckStop (up : List Ces) (r z : ByteArray) (hr : r = sRun) (hz : z = sStop) : Cs gl n_control_CheckStop up [usM.iv, (stA r).iv, .int .i64 0, .lst none 7 14 fun i => (stp z i).cs] (.int .i64 0) up := by
  subst hr
  subst hz
  have h := c_CheckStop (gl := gl) up (stA sRun) usM 0 14 (by decide) (stp sStop)
  have e0 : (csErr0 (stA sRun) usM 0 14 != 0) = false := by
    unfold csErr0
    rw [stA_err]
    decide
  have e1 : decide ((stA sRun).most usM 0 ((stA sRun).num usM 0) > usM.lim) = false := by
    have h := stA_run.1
    unfold Sta.pk at h
    rw [h]; decide
  have e2 : allB (fun i => eqSta (stp sStop i) ((stA sRun).stopS usM 0 i)) 14 0 = true := by
    have g : ∀ n i, i + n ≤ 14 → allB (fun i => eqSta (stp sStop i) ((stA sRun).stopS usM 0 i)) n i = true := by
      intro n
      induction n with
      | zero => intro i _; rfl
      | succ n ih =>
        intro i hi
        unfold allB
        rw [ih (i + 1) (by omega), stp_eq i (by omega), eqSta_refl]; rfl
    exact g 14 0 (by decide)
  unfold csErr at h
  rw [e0, e1, e2, stA_run.2] at h
  exact h

def rwL : List Rw := [⟨0, 32⟩, ⟨1, 37⟩, ⟨2, 40⟩, ⟨3, 40⟩, ⟨4, 40⟩, ⟨5, 40⟩, ⟨6, 40⟩]
theorem rows_us : rowsOf usM (numN usM) 7 = rwL := by
  rw [rows_run us_ok us_fea 7 (by decide)]
  kernel_rfl
theorem a_Table (up : List Ces) : Cs gl n_control_Table up [usM.iv] (.tup [.lst none 2 7 fun i => (rwL.getD i row0).cs, .int .i64 0]) up := by
  have h := c_Table (gl := gl) up usM (numN usM) fun hm a v h1 h2 h3 h4 k hk => tab_takes hm a v h1 h2 h3 h4 k hk
  unfold tableR at h
  rw [show (usM.err != 0) = false by decide +kernel, show (usM.fea + 1).toNat = 7 from rfl, rows_us] at h
  exact Comp.res h ⟨tagless _ _ _ _, leV_refl _, trivial⟩

def fastS (r : ByteArray) : Sta := ⟨r, 30, 0, 0, 0, 0, -1⟩
theorem fast_rng : (fastS sRun).rng usM := ⟨by decide, by decide, by decide, by decide⟩
theorem fast_err : (fastS sRun).err usM = 0 := by
  rw [staErr_run]
  decide +kernel
theorem a_Allowed (up : List Ces) (hk : gl g_control_kinds = kindsI) (r : ByteArray) (hr : r = sRun) (t : ByteArray) (ht : t = sTick) : Cs gl n_control_Allowed up [usM.iv, (fastS r).iv, (Ac.mk t 10 0 0 (-1)).iv] (.tup [.int .i64 7, .int .i64 0]) up := by
  subst hr
  subst ht
  have h := c_Allowed (gl := gl) up hk usM (fastS sRun) ⟨sTick, 10, 0, 0, -1⟩
  have e1 : (Ac.mk sTick 10 0 0 (-1)).err usM = 0 := by
    rw [acErr_run]
    decide +kernel
  have e0 : (actE usM (fastS sRun) ⟨sTick, 10, 0, 0, -1⟩ != 0) = false := by
    unfold actE
    rw [fast_err, e1]
    decide
  rw [e0, allowed_run us_ok us_fea fast_rng (Ac.err_ok e1).2.1, show (fastS sRun).allowedX usM ⟨sTick, 10, 0, 0, -1⟩ = 7 by kernel_rfl] at h
  exact h

theorem a_Next (up : List Ces) (hk : gl g_control_kinds = kindsI) (r : ByteArray) (hr : r = sRun) (t : ByteArray) (ht : t = sTick) : Cs gl n_control_Next up [usM.iv, (fastS r).iv, (Ac.mk t 10 0 8 (-1)).iv] (.tup [(Sta.mk r 32 0 0 0 8 (-1)).iv, .int .i64 0]) up := by
  subst hr
  subst ht
  have h := c_Next (gl := gl) up hk usM (fastS sRun) ⟨sTick, 10, 0, 8, -1⟩
  have e1 : (Ac.mk sTick 10 0 8 (-1)).err usM = 0 := by
    rw [acErr_run]
    decide +kernel
  have e0 : (actE usM (fastS sRun) ⟨sTick, 10, 0, 8, -1⟩ != 0) = false := by
    unfold actE
    rw [fast_err, e1]
    decide
  unfold nextR at h
  rw [e0, allowed_run us_ok us_fea fast_rng (Ac.err_ok e1).2.1, show (fastS sRun).allowedX usM ⟨sTick, 10, 0, 8, -1⟩ = 0 by kernel_rfl, behind_run, show (fastS sRun).behindX usM ⟨sTick, 10, 0, 8, -1⟩ = ⟨sRun, 32, 0, 0, 0, 8, -1⟩ by kernel_rfl] at h
  exact h

theorem a_Propose (up : List Ces) (r : ByteArray) (hr : r = sRun) (t : ByteArray) (ht : t = sTick) : Cs gl n_control_Propose up [usM.iv, (Sta.mk r 24 4 4 4 0 (-1)).iv, .int .i64 10] (.tup [(Ac.mk t 10 4 8 (-1)).iv, .int .i64 0]) up := by
  subst hr
  subst ht
  have h := c_Propose (gl := gl) up usM ⟨sRun, 24, 4, 4, 4, 0, -1⟩ 10
  have e1 : (Sta.mk sRun 24 4 4 4 0 (-1)).err usM = 0 := by
    rw [staErr_run]
    decide +kernel
  unfold proposeR at h
  have hi : (Sta.mk sRun 24 4 4 4 0 (-1)).inv usM := ⟨⟨by decide, by decide, by decide, by decide⟩, by decide, by decide⟩
  rw [e1, show (orL [0, withinS 10 0 usM.wind] != 0) = false by decide, propose_run us_ok us_fea hi (by decide), show (Sta.mk sRun 24 4 4 4 0 (-1)).proposeX usM 10 = ⟨sTick, 10, 4, 8, -1⟩ by kernel_rfl] at h
  exact h
end Go.Proofs.YtkdlegfakefjgaaGreatDoor.Ix

/-
  Aw6: awake() of chapter 5 is true.
-/
namespace Go.Proofs.YtkdlegfakefjgaaGreatDoor.Ix
open Go.Proofs
set_option maxRecDepth 100000
set_option linter.unusedVariables false
set_option linter.unusedSimpArgs false
variable {gl : Nat → IV}

def sameIn (n k : Nat) (f g : Nat → Int) : Bool := bif (n : Int) != k then false else allB (fun i => f i == g i) n 0

theorem c_rSameInts (up : List Ces) (n k : Nat) (hn : n ≤ 10000000) (f g : Nat → Int) :
    Cs gl n_nacelleref01_SameInts up [.lst none 1 n fun i => [.int .i64 (f i)], .lst none 1 k fun i => [.int .i64 (g i)]] (.bool (sameIn n k f g)) up := by
  refine mk h_nacelleref01_SameInts rfl rfl ?_
  unfold sameIn
  cases q0 : ((n : Int) != k) with
  | true =>
    conv => whnf
    split
    rotate_left
    · rename_i h
      exact Bool.noConfusion ((q0).symm.trans h)
    rename_i hN
    clear hN
    conv => whnf
    exact ⟨rfl, rfl⟩
  | false =>
    have e : n = k := by have : (n : Int) = k := by simpa using q0
                         omega
    subst e
    conv => whnf
    split
    · rename_i h
      exact Bool.noConfusion ((q0).symm.trans h)
    rename_i hN
    clear hN
    conv => whnf
    refine .mk (α := {i : Nat // i ≤ n ∧ allB (fun i => f i == g i) n 0 = allB (fun i => f i == g i) (n - i) i}) (fun i => ⟨[(5, .int .i64 i.1), (1, .lst none 1 n fun i => [.int .i64 (g i)]), (0, .lst none 1 n fun i => [.int .i64 (f i)])], [], up⟩) (fun i => n - i.1) ⟨0, Nat.zero_le _, rfl⟩ ⟨?_, ?_, rfl, rfl⟩ ?_
    · exact ⟨leV_refl _, leV_refl _, leV_refl _, trivial⟩
    · exact trivial
    rintro ⟨i, hi, he⟩
    have hw : w64 ((i : Int) + 1) = ((i + 1 : Nat) : Int) := by rw [w64, wrap_in] <;> omega
    by_cases hlt : i < n
    · have q : decide ((i : Int) < (n : Int)) = true := decide_eq_true (by omega)
      rw [allB_step hlt] at he
      cases qe : (f i == g i) with
      | false =>
        rw [qe, Bool.false_and] at he
        have ne : (f i != g i) = true := by simpa using qe
        conv => whnf
        split
        rotate_left
        · rename_i h
          exact Bool.noConfusion ((q).symm.trans h)
        rename_i hN
        clear hN
        conv => whnf
        refine DRAW.seek ?_
        repeat (first | refine TRYD.take ?_ | refine TRYD.next ?_)
        conv => whnf
        split
        rotate_left
        · rename_i h
          exact Bool.noConfusion ((q).symm.trans h)
        rename_i hN
        clear hN
        conv => whnf
        split
        rotate_left
        · rename_i h
          exact Bool.noConfusion ((q).symm.trans h)
        rename_i hN
        clear hN
        conv => whnf
        split
        rotate_left
        · rename_i h
          exact Bool.noConfusion ((ne).symm.trans h)
        rename_i hN
        clear hN
        conv => whnf
        exact ⟨congrArg IV.bool he.symm, rfl⟩
      | true =>
        rw [qe, Bool.true_and] at he
        have ne : (f i != g i) = false := by simpa using qe
        conv => whnf
        split
        rotate_left
        · rename_i h
          exact Bool.noConfusion ((q).symm.trans h)
        rename_i hN
        clear hN
        conv => whnf
        refine DRAW.seek ?_
        repeat (first | refine TRYD.take ?_ | refine TRYD.next ?_)
        conv => whnf
        split
        rotate_left
        · rename_i h
          exact Bool.noConfusion ((q).symm.trans h)
        rename_i hN
        clear hN
        conv => whnf
        split
        rotate_left
        · rename_i h
          exact Bool.noConfusion ((q).symm.trans h)
        rename_i hN
        clear hN
        conv => whnf
        split
        · rename_i h
          exact Bool.noConfusion ((ne).symm.trans h)
        rename_i hN
        clear hN
        conv => whnf
        exact ⟨⟨i + 1, hlt, he⟩, ⟨⟨leV_int hw, leV_refl _, leV_refl _, trivial⟩, trivial, rfl, rfl⟩, (by show n - (i + 1) < n - i; omega)⟩
    · have q : decide ((i : Int) < (n : Int)) = false := decide_eq_false (by omega)
      have : i = n := by omega
      subst this
      rw [Nat.sub_self] at he
      conv => whnf
      split
      · rename_i h
        exact Bool.noConfusion ((q).symm.trans h)
      rename_i hN
      clear hN
      conv => whnf
      exact ⟨congrArg IV.bool he.symm, rfl⟩

theorem sameIn_refl (n : Nat) (f : Nat → Int) : sameIn n n f f = true := by
  unfold sameIn
  rw [show ((n : Int) != n) = false by simp, cond_false]
  have : ∀ n i, allB (fun i => f i == f i) n i = true := by
    intro n
    induction n with
    | zero => intro i; rfl
    | succ n ih => intro i; unfold allB; rw [ih, beq_self_eq_true]; rfl
  exact this n 0

theorem a_SameInts (up : List Ces) : Cs gl n_nacelleref01_SameInts up [.lst none 1 4 fun i => [.int .i64 (spd i)], .lst none 1 4 (litF 1 [.int .i64 0, .int .i64 0, .int .i64 4, .int .i64 14])] (.bool true) up := by
  have h := c_rSameInts (gl := gl) up 4 4 (by decide) spd spd
  rw [sameIn_refl] at h
  refine Comp.le (args' := [.lst none 1 4 fun i => [.int .i64 (spd i)], .lst none 1 4 fun i => [.int .i64 (spd i)]]) ?_ h
  refine ⟨leV_refl _, ⟨.inl rfl, rfl, rfl, fun i hi => ?_⟩, trivial⟩
  match i, hi with
  | 0, _ => rfl
  | 1, _ => rfl
  | 2, _ => rfl
  | 3, _ => rfl

def exText : ByteArray := ⟨#[115, 116, 97, 114, 116, 32, 48, 32, 48, 32, 48, 32, 45, 10, 116, 105, 99, 107, 32, 49, 48, 32, 48, 32, 48, 32, 45, 10, 116, 105, 99, 107, 32, 49, 48, 32, 48, 32, 48, 32, 45, 10, 116, 105, 99, 107, 32, 49, 48, 32, 48, 32, 48, 32, 45, 10]⟩
theorem itoa_0 : Go.Lib.itoa 0 = [48] := by
  rw [show (0 : Int) = ((0 : Nat) : Int) from rfl, Go.Lib.itoa_nonneg, Go.Lib.decDigits_one (by decide)]; rfl
theorem itoa_10 : Go.Lib.itoa 10 = [49, 48] := by
  rw [show (10 : Int) = ((10 : Nat) : Int) from rfl, Go.Lib.itoa_nonneg, Go.Lib.decDigits_two (by decide) (by decide)]; rfl

theorem beg_text : actsS begA 4 = exText.data.toList := by
  have l0 : (begA 0).line = [115, 116, 97, 114, 116, 32, 48, 32, 48, 32, 48, 32, 45, 10] := by
    show sStart.data.toList ++ (32 :: Go.Lib.itoa 0 ++ (32 :: Go.Lib.itoa 0 ++ (32 :: Go.Lib.itoa 0 ++ (32 :: Ac.blade _ ++ [10])))) = _
    rw [itoa_0]; rfl
  have l1 : ∀ i, (begA (i + 1)).line = [116, 105, 99, 107, 32, 49, 48, 32, 48, 32, 48, 32, 45, 10] := by
    intro i
    show sTick.data.toList ++ (32 :: Go.Lib.itoa 10 ++ (32 :: Go.Lib.itoa 0 ++ (32 :: Go.Lib.itoa 0 ++ (32 :: Ac.blade _ ++ [10])))) = _
    rw [itoa_0, itoa_10]; rfl
  show ((([] ++ (begA 0).line) ++ (begA 1).line) ++ (begA 2).line) ++ (begA 3).line = _
  rw [l0, l1 0, l1 1, l1 2]; rfl

theorem beg_acts : actsE 4 begA = 0 := by
  have : ∀ i, (begA i).checkE 100 100 100 = 0 := fun i => by
    rw [check_run]
    cases i with
    | zero => decide +kernel
    | succ i =>
      show (Ac.mk sTick 10 0 0 (-1)).checkX 100 100 100 = 0
      decide +kernel
  unfold actsE
  rw [show decide (((4 : Nat) : Int) > 1024) = false from rfl, cond_false, firstS_zero]
  exact fun j _ _ => this j

theorem a_Print (up : List Ces) (hk : gl g_control_kinds = kindsI) (hg : gl g_internal_strconv_uint64pow10 = powI) (x : ByteArray) (hx : x = exText) : Cs gl n_control_Print up [.lst none 5 4 fun i => (begA i).cs] (.tup [.str x, .int .i64 0]) up := by
  subst hx
  have h := c_Print (gl := gl) up hk hg 4 (by decide) begA
  rw [beg_acts, beg_text] at h
  exact h

def eqAc (a b : Ac) : Bool := eqS a.kind b.kind && (a.wind == b.wind && (a.pitch == b.pitch && (a.tor == b.tor && (a.stuck == b.stuck && true))))
theorem eqAc_refl (a : Ac) : eqAc a a = true := by
  unfold eqAc
  rw [eqS_iff.2 rfl]
  simp

/-- What is read behind each call. -/
def lvAw : List (Nat × List Nat) := [(23, [0, 1, 2, 3, 4, 5, 6, 7, 8, 9, 10, 11, 23]), (24, [0, 1, 2, 3, 4, 5, 6, 7, 8, 9, 10, 11, 23, 24]), (25, [0, 1, 2, 3, 4, 5, 6, 7, 8, 9, 10, 11, 25]), (30, [0, 1, 2, 3, 4, 5, 6, 7, 8, 9, 10, 11, 30]), (31, [0, 1, 2, 3, 4, 5, 6, 7, 8, 9, 10, 11, 30, 31]), (32, [0, 1, 2, 3, 4, 5, 6, 7, 8, 9, 10, 11, 32]), (36, [0, 1, 2, 3, 4, 5, 6, 7, 8, 9, 10, 11, 36]), (38, [0, 1, 2, 3, 4, 5, 6, 7, 8, 9, 10, 11, 38]), (42, [0, 1, 2, 3, 4, 5, 6, 7, 8, 9, 10, 11, 42]), (44, [0, 1, 2, 3, 4, 5, 6, 7, 8, 9, 10, 11, 44]), (49, [0, 1, 2, 3, 4, 5, 6, 7, 8, 9, 10, 11, 49]), (50, [0, 1, 2, 3, 4, 5, 6, 7, 8, 9, 10, 11, 50]), (55, [0, 1, 2, 3, 4, 5, 6, 7, 8, 9, 10, 11, 12, 13, 55]), (58, [0, 1, 2, 3, 4, 5, 6, 7, 8, 9, 10, 11, 12, 13, 58]), (62, [0, 1, 2, 3, 4, 5, 6, 7, 8, 9, 10, 11, 12, 13, 14, 15, 62]), (65, [0, 1, 2, 3, 4, 5, 6, 7, 8, 9, 10, 11, 12, 14, 15, 65]), (69, [0, 1, 2, 3, 4, 5, 6, 7, 8, 9, 10, 11, 12, 14, 15, 16, 17, 69]), (72, [0, 1, 2, 3, 4, 5, 6, 7, 8, 9, 10, 11, 12, 14, 15, 16, 17, 72]), (76, [0, 1, 2, 3, 4, 5, 6, 7, 8, 9, 10, 11, 12, 14, 15, 16, 17, 18, 19, 76]), (77, [0, 1, 2, 3, 4, 5, 6, 7, 8, 9, 10, 11, 12, 14, 15, 16, 17, 18, 19, 77]), (110, [0, 1, 6, 8, 9, 11, 14, 16, 18, 20, 107, 110]), (201, [0, 1, 6, 200, 201]), (204, [0, 200, 204])]
set_option maxHeartbeats 16000000 in
theorem c_awake (up : List Ces) (hk : gl g_control_kinds = kindsI) (hg : gl g_internal_strconv_uint64pow10 = powI) : Cs gl n_nacellelaw05_awake up [] (.bool true) up := by
  obtain ⟨r, hr⟩ : ∃ r, r = sRun := ⟨_, rfl⟩
  obtain ⟨z, hz⟩ : ∃ r, r = sStop := ⟨_, rfl⟩
  obtain ⟨t, ht⟩ : ∃ r, r = sTick := ⟨_, rfl⟩
  obtain ⟨x, hx⟩ : ∃ r, r = exText := ⟨_, rfl⟩
  obtain ⟨f, hf⟩ : ∃ f, f = stp z := ⟨_, rfl⟩
  have h1 := fun up => a_Replay (gl := gl) up hk r hr
  have h2 := fun up => a_Speeds (gl := gl) up hk
  have h3 := fun up => a_Stop (gl := gl) up r z hr hz
  have h4 := fun up => a_Peak (gl := gl) up r hr
  have h5 := fun up => a_Allowed (gl := gl) up hk sRun rfl sTick rfl
  have h6 := fun up => a_Next (gl := gl) up hk sRun rfl sTick rfl
  have h7 := fun up => a_Propose (gl := gl) up sRun rfl t ht
  have h8 := fun up => a_Print (gl := gl) up hk hg x hx
  have h9 := fun up => a_CheckStop (gl := gl) up r z hr hz
  rw [← hf] at h3 h9
  have n5 : ((f 2).speed != 22) = false := by rw [hf]; rfl
  have n6 : ((f 13).speed != 0) = false := by rw [hf]; rfl
  have n1 : (!eqSta (stA r) (stA sRun)) = false := by rw [hr, eqSta_refl]; rfl
  have n2 : (!eqSta (f 1) (stp sStop 1)) = false := by rw [hf, hz, eqSta_refl]; rfl
  have n3 : eqAc ⟨t, 10, 4, 8, -1⟩ ⟨sTick, 10, 4, 8, -1⟩ = true := by rw [ht, eqAc_refl]
  have n4 : eqS x exText = true := eqS_iff.2 hx
  clear hf hz hr ht hx
  refine mk h_nacellelaw05_awake rfl rfl ?_
  conv => whnf
  repeat first
    | (refine DRAW.seek ?_; repeat (first | refine TRYD.take ?_ | refine TRYD.next ?_); conv => whnf)
    | (refine HOLD.mk (by first | exact trivial | exact ⟨⟨rfl, rfl⟩, trivial⟩ | exact ⟨⟨rfl, rfl⟩, ⟨rfl, rfl⟩, trivial⟩) ?_; (conv => whnf))
    | (refine CALL0.cutBy lvAw _ _ _ _ _ (leL_refl _) (c_usual ..) rfl ?_; conv => whnf)
    | (refine CALL0.by (c_usual ..) rfl ?_; conv => whnf)
    | (refine CALLQ.mk _ _ _ (leL_refl _) (c_usual ..) rfl ?_; conv => whnf)
    | (refine CALL0.cutBy lvAw _ _ _ _ _ (leL_refl _) (c_begun ..) rfl ?_; conv => whnf)
    | (refine CALL0.by (c_begun ..) rfl ?_; conv => whnf)
    | (refine CALLQ.mk _ _ _ (leL_refl _) (c_begun ..) rfl ?_; conv => whnf)
    | (refine CALL0.cutBy lvAw _ _ _ _ _ (leL_refl _) (h1 ..) rfl ?_; conv => whnf)
    | (refine CALL0.by (h1 ..) rfl ?_; conv => whnf)
    | (refine CALLQ.mk _ _ _ (leL_refl _) (h1 ..) rfl ?_; conv => whnf)
    | (refine CALL0.cutBy lvAw _ _ _ _ _ (leL_refl _) (h2 ..) rfl ?_; conv => whnf)
    | (refine CALL0.by (h2 ..) rfl ?_; conv => whnf)
    | (refine CALLQ.mk _ _ _ (leL_refl _) (h2 ..) rfl ?_; conv => whnf)
    | (refine CALL0.cutBy lvAw _ _ _ _ _ (leL_refl _) (h3 ..) rfl ?_; conv => whnf)
    | (refine CALL0.by (h3 ..) rfl ?_; conv => whnf)
    | (refine CALLQ.mk _ _ _ (leL_refl _) (h3 ..) rfl ?_; conv => whnf)
    | (refine CALL0.cutBy lvAw _ _ _ _ _ (leL_refl _) (h4 ..) rfl ?_; conv => whnf)
    | (refine CALL0.by (h4 ..) rfl ?_; conv => whnf)
    | (refine CALLQ.mk _ _ _ (leL_refl _) (h4 ..) rfl ?_; conv => whnf)
    | (refine CALL0.cutBy lvAw _ _ _ _ _ (leL_refl _) (a_Table ..) rfl ?_; conv => whnf)
    | (refine CALL0.by (a_Table ..) rfl ?_; conv => whnf)
    | (refine CALLQ.mk _ _ _ (leL_refl _) (a_Table ..) rfl ?_; conv => whnf)
    | (refine CALL0.cutBy lvAw _ _ _ _ _ (leL_refl _) (h5 ..) rfl ?_; conv => whnf)
    | (refine CALL0.by (h5 ..) rfl ?_; conv => whnf)
    | (refine CALLQ.mk _ _ _ (leL_refl _) (h5 ..) rfl ?_; conv => whnf)
    | (refine CALL0.cutBy lvAw _ _ _ _ _ (leL_refl _) (h6 ..) rfl ?_; conv => whnf)
    | (refine CALL0.by (h6 ..) rfl ?_; conv => whnf)
    | (refine CALLQ.mk _ _ _ (leL_refl _) (h6 ..) rfl ?_; conv => whnf)
    | (refine CALL0.cutBy lvAw _ _ _ _ _ (leL_refl _) (h7 ..) rfl ?_; conv => whnf)
    | (refine CALL0.by (h7 ..) rfl ?_; conv => whnf)
    | (refine CALLQ.mk _ _ _ (leL_refl _) (h7 ..) rfl ?_; conv => whnf)
    | (refine CALL0.cutBy lvAw _ _ _ _ _ (leL_refl _) (h8 ..) rfl ?_; conv => whnf)
    | (refine CALL0.by (h8 ..) rfl ?_; conv => whnf)
    | (refine CALLQ.mk _ _ _ (leL_refl _) (h8 ..) rfl ?_; conv => whnf)
  split
  · rename_i h
    exact Bool.noConfusion ((n1).symm.trans h)
  rename_i hN
  clear hN
  conv => whnf
  repeat first
    | (refine DRAW.seek ?_; repeat (first | refine TRYD.take ?_ | refine TRYD.next ?_); conv => whnf)
    | (refine HOLD.mk (by first | exact trivial | exact ⟨⟨rfl, rfl⟩, trivial⟩ | exact ⟨⟨rfl, rfl⟩, ⟨rfl, rfl⟩, trivial⟩) ?_; (conv => whnf))
    | (refine CALL0.cutBy lvAw _ _ _ _ _ (leL_refl _) (a_SameInts ..) rfl ?_; conv => whnf)
    | (refine CALL0.by (a_SameInts ..) rfl ?_; conv => whnf)
    | (refine CALLQ.mk _ _ _ (leL_refl _) (a_SameInts ..) rfl ?_; conv => whnf)
  split
  · rename_i h
    exact Bool.noConfusion ((n2).symm.trans h)
  rename_i hN
  clear hN
  conv => whnf
  split
  · rename_i h
    exact Bool.noConfusion ((n5).symm.trans h)
  rename_i hN
  clear hN
  conv => whnf
  split
  · rename_i h
    exact Bool.noConfusion ((n6).symm.trans h)
  rename_i hN
  clear hN
  conv => whnf
  refine DRAW.seek ?_
  repeat (first | refine TRYD.take ?_ | refine TRYD.next ?_)
  conv => whnf
  split
  rotate_left
  · rename_i h
    exact Bool.noConfusion ((n3).symm.trans h)
  rename_i hN
  clear hN
  conv => whnf
  split
  rotate_left
  · rename_i h
    exact Bool.noConfusion ((n4).symm.trans h)
  rename_i hN
  clear hN
  conv => whnf
  repeat first
    | (refine DRAW.seek ?_; repeat (first | refine TRYD.take ?_ | refine TRYD.next ?_); conv => whnf)
    | (refine HOLD.mk (by first | exact trivial | exact ⟨⟨rfl, rfl⟩, trivial⟩ | exact ⟨⟨rfl, rfl⟩, ⟨rfl, rfl⟩, trivial⟩) ?_; (conv => whnf))
    | (refine CALL0.cutBy lvAw _ _ _ _ _ (leL_refl _) (c_usual ..) rfl ?_; conv => whnf)
    | (refine CALL0.by (c_usual ..) rfl ?_; conv => whnf)
    | (refine CALLQ.mk _ _ _ (leL_refl _) (c_usual ..) rfl ?_; conv => whnf)
    | (refine CALL0.cutBy lvAw _ _ _ _ _ (leL_refl _) (h9 ..) rfl ?_; conv => whnf)
    | (refine CALL0.by (h9 ..) rfl ?_; conv => whnf)
    | (refine CALLQ.mk _ _ _ (leL_refl _) (h9 ..) rfl ?_; conv => whnf)
  exact ⟨rfl, rfl⟩
end Go.Proofs.YtkdlegfakefjgaaGreatDoor.Ix

/-
  Ks0: what several laws of chapter 5 use: small machines, lists of acts, empty lists.
-/
namespace Go.Proofs.YtkdlegfakefjgaaGreatDoor.Ix
open Go.Proofs
set_option maxRecDepth 100000
set_option linter.unusedVariables false
set_option linter.unusedSimpArgs false
variable {gl : Nat → IV}

def Mc.smallB (m : Mc) : Bool := m.err != 0 || (decide (m.fea ≤ 20) && (decide (m.lim ≤ 100) && decide (w64 (10 * m.rate) ≥ m.fea)))

theorem c_rSmall (up : List Ces) (m : Mc) : Cs gl n_nacelleref05_Small up [m.iv] (.bool m.smallB) up := by
  refine mk h_nacelleref05_Small rfl rfl ?_
  unfold Mc.smallB
  cases q0 : (m.err != 0) with
  | true =>
    conv => whnf
    repeat first
      | (refine DRAW.seek ?_; repeat (first | refine TRYD.take ?_ | refine TRYD.next ?_); conv => whnf)
      | (refine HOLD.mk (by first | exact trivial | exact ⟨⟨rfl, rfl⟩, trivial⟩ | exact ⟨⟨rfl, rfl⟩, ⟨rfl, rfl⟩, trivial⟩) ?_; (conv => whnf))
      | (refine CALL0.by (c_rMachine ..) rfl ?_; conv => whnf)
      | (refine CALLQ.mk _ _ _ (leL_refl _) (c_rMachine ..) rfl ?_; conv => whnf)
    split
    rotate_left
    · rename_i h
      exact Bool.noConfusion ((q0).symm.trans h)
    rename_i hN
    clear hN
    conv => whnf
    exact ⟨rfl, rfl⟩
  | false =>
  cases q1 : decide (m.fea ≤ 20) with
  | false =>
    conv => whnf
    repeat first
      | (refine DRAW.seek ?_; repeat (first | refine TRYD.take ?_ | refine TRYD.next ?_); conv => whnf)
      | (refine HOLD.mk (by first | exact trivial | exact ⟨⟨rfl, rfl⟩, trivial⟩ | exact ⟨⟨rfl, rfl⟩, ⟨rfl, rfl⟩, trivial⟩) ?_; (conv => whnf))
      | (refine CALL0.by (c_rMachine ..) rfl ?_; conv => whnf)
      | (refine CALLQ.mk _ _ _ (leL_refl _) (c_rMachine ..) rfl ?_; conv => whnf)
    split
    · rename_i h
      exact Bool.noConfusion ((q0).symm.trans h)
    rename_i hN
    clear hN
    conv => whnf
    split
    · rename_i h
      exact Bool.noConfusion ((q1).symm.trans h)
    rename_i hN
    clear hN
    conv => whnf
    exact ⟨rfl, rfl⟩
  | true =>
  cases q2 : decide (m.lim ≤ 100) with
  | false =>
    conv => whnf
    repeat first
      | (refine DRAW.seek ?_; repeat (first | refine TRYD.take ?_ | refine TRYD.next ?_); conv => whnf)
      | (refine HOLD.mk (by first | exact trivial | exact ⟨⟨rfl, rfl⟩, trivial⟩ | exact ⟨⟨rfl, rfl⟩, ⟨rfl, rfl⟩, trivial⟩) ?_; (conv => whnf))
      | (refine CALL0.by (c_rMachine ..) rfl ?_; conv => whnf)
      | (refine CALLQ.mk _ _ _ (leL_refl _) (c_rMachine ..) rfl ?_; conv => whnf)
    split
    · rename_i h
      exact Bool.noConfusion ((q0).symm.trans h)
    rename_i hN
    clear hN
    conv => whnf
    split
    rotate_left
    · rename_i h
      exact Bool.noConfusion ((q1).symm.trans h)
    rename_i hN
    clear hN
    conv => whnf
    split
    · rename_i h
      exact Bool.noConfusion ((q2).symm.trans h)
    rename_i hN
    clear hN
    conv => whnf
    exact ⟨rfl, rfl⟩
  | true =>
    conv => whnf
    repeat first
      | (refine DRAW.seek ?_; repeat (first | refine TRYD.take ?_ | refine TRYD.next ?_); conv => whnf)
      | (refine HOLD.mk (by first | exact trivial | exact ⟨⟨rfl, rfl⟩, trivial⟩ | exact ⟨⟨rfl, rfl⟩, ⟨rfl, rfl⟩, trivial⟩) ?_; (conv => whnf))
      | (refine CALL0.by (c_rMachine ..) rfl ?_; conv => whnf)
      | (refine CALLQ.mk _ _ _ (leL_refl _) (c_rMachine ..) rfl ?_; conv => whnf)
    split
    · rename_i h
      exact Bool.noConfusion ((q0).symm.trans h)
    rename_i hN
    clear hN
    conv => whnf
    split
    rotate_left
    · rename_i h
      exact Bool.noConfusion ((q1).symm.trans h)
    rename_i hN
    clear hN
    conv => whnf
    split
    rotate_left
    · rename_i h
      exact Bool.noConfusion ((q2).symm.trans h)
    rename_i hN
    clear hN
    conv => whnf
    exact ⟨rfl, rfl⟩

theorem small_ok {m : Mc} (h : m.smallB = true) (h0 : m.err = 0) : m.ok ∧ m.fea ≤ 20 ∧ m.lim ≤ 100 ∧ m.fea ≤ 10 * m.rate := by
  have hm := Mc.err_ok h0
  unfold Mc.smallB at h
  rw [show (m.err != 0) = false by simpa using h0, Bool.false_or, Bool.and_eq_true, Bool.and_eq_true] at h
  obtain ⟨a, b, c⟩ := h
  have a := of_decide_eq_true a
  have b := of_decide_eq_true b
  have c := of_decide_eq_true c
  have := hm.rate
  have := hm.fea
  rw [w64, wrap_in (by omega) (by omega)] at c
  exact ⟨hm, a, b, c⟩

theorem orL_ne {a : Int} {r : List Int} (h : (a != 0) = true) : orL (a :: r) = a := orE_ne h
theorem orL_0 {r : List Int} : orL (0 :: r) = orL r := rfl

theorem c_toldNil (up : List Ces) : Cs gl n_nacellelaw05_told up [.nilS] (.lst (some 15) 7 0 fun i => Sta.zero.cs) up :=
  Comp.le (args' := [.lst none 7 0 fun i => Sta.zero.cs]) ⟨rfl, trivial⟩ (c_told up 0 (by decide) fun _ => Sta.zero)
theorem c_sameNil (up : List Ces) : Cs gl n_nacelleref05_SameStates up [.lst none 7 0 fun i => Sta.zero.cs, .nilS] (.bool true) up :=
  Comp.le (args' := [.lst none 7 0 fun i => Sta.zero.cs, .lst none 7 0 fun i => Sta.zero.cs]) ⟨leV_refl _, rfl, trivial⟩ (c_rSameStates up 0 0 (by decide) (fun _ => Sta.zero) fun _ => Sta.zero)

theorem sameSt_refl (n : Nat) (f : Nat → Sta) : sameSt n n f f = true := by
  unfold sameSt
  rw [show ((n : Int) != n) = false by simp, cond_false]
  have : ∀ n i, allB (fun i => eqSta (f i) (f i)) n i = true := by
    intro n
    induction n with
    | zero => intro i; rfl
    | succ n ih => intro i; unfold allB; rw [ih, eqSta_refl]; rfl
  exact this n 0

theorem c_acts (up : List Ces) (n : Nat) (hn : n ≤ 10000000) (f : Nat → Ac) : Cs gl n_nacellelaw05_acts up [.lst none 5 n fun i => (f i).cs] (.lst (some 15) 5 n fun i => (f i).cs) up := by
  refine mk h_nacellelaw05_acts rfl rfl ?_
  conv => whnf
  let F : Nat → List IV := fun i => (f i).cs
  refine .mk (α := {i : Nat // i ≤ n}) (fun i => ⟨[(8, .int .i64 i.1), (7, .int .i64 n), (6, .lst none 5 n F), (3, .lst (some 15) 5 i.1 F)], [], up⟩) (fun i => n - i.1) ⟨0, Nat.zero_le _⟩ ⟨?_, trivial, rfl, rfl⟩ ?_
  · exact ⟨leV_refl _, leV_refl _, leV_refl _, rfl, trivial⟩
  rintro ⟨i, hi⟩
  have hw : w64 ((i : Int) + 1) = ((i + 1 : Nat) : Int) := by rw [w64, wrap_in] <;> omega
  by_cases hlt : i < n
  · have q : decide ((i : Int) < n) = true := decide_eq_true (by omega)
    conv => whnf
    split
    rotate_left
    · rename_i h
      exact Bool.noConfusion ((q).symm.trans h)
    rename_i hN
    clear hN
    conv => whnf
    split
    rotate_left
    · rename_i h
      exact Bool.noConfusion ((q).symm.trans h)
    rename_i hN
    clear hN
    conv => whnf
    split
    rotate_left
    · rename_i h
      have h' : decide (i + 1 ≤ 1073741824) = false := h
      simp at h' <;> omega
    conv => whnf
    refine ⟨⟨i + 1, hlt⟩, ⟨⟨leV_int hw, leV_refl _, leV_refl _, ⟨.inr rfl, rfl, rfl, fun j hj => ?_⟩, trivial⟩, trivial, rfl, rfl⟩, (by show n - (i + 1) < n - i; omega)⟩
    show (if j < i then F j else litF 5 (F i) (j - i)) = F j
    split
    · rfl
    · have : j = i := by have : j < i + 1 := hj; omega
      subst this; rw [Nat.sub_self]; rfl
  · have q : decide ((i : Int) < n) = false := decide_eq_false (by omega)
    have : i = n := by omega
    subst this
    conv => whnf
    split
    · rename_i h
      exact Bool.noConfusion ((q).symm.trans h)
    rename_i hN
    clear hN
    conv => whnf
    exact ⟨rfl, rfl⟩
theorem c_own (up : List Ces) (n : Nat) (hn : n ≤ 10000000) (f : Nat → Ac) : Cs gl n_nacellelaw05_own up [.lst none 5 n fun i => (f i).cs] (.lst (some 15) 5 n fun i => (f i).cs) up := by
  refine mk h_nacellelaw05_own rfl rfl ?_
  conv => whnf
  let F : Nat → List IV := fun i => (f i).cs
  refine .mk (α := {i : Nat // i ≤ n}) (fun i => ⟨[(8, .int .i64 i.1), (7, .int .i64 n), (6, .lst none 5 n F), (3, .lst (some 15) 5 i.1 F)], [], up⟩) (fun i => n - i.1) ⟨0, Nat.zero_le _⟩ ⟨?_, trivial, rfl, rfl⟩ ?_
  · exact ⟨leV_refl _, leV_refl _, leV_refl _, rfl, trivial⟩
  rintro ⟨i, hi⟩
  have hw : w64 ((i : Int) + 1) = ((i + 1 : Nat) : Int) := by rw [w64, wrap_in] <;> omega
  by_cases hlt : i < n
  · have q : decide ((i : Int) < n) = true := decide_eq_true (by omega)
    conv => whnf
    split
    rotate_left
    · rename_i h
      exact Bool.noConfusion ((q).symm.trans h)
    rename_i hN
    clear hN
    conv => whnf
    split
    rotate_left
    · rename_i h
      exact Bool.noConfusion ((q).symm.trans h)
    rename_i hN
    clear hN
    conv => whnf
    split
    rotate_left
    · rename_i h
      have h' : decide (i + 1 ≤ 1073741824) = false := h
      simp at h' <;> omega
    conv => whnf
    refine ⟨⟨i + 1, hlt⟩, ⟨⟨leV_int hw, leV_refl _, leV_refl _, ⟨.inr rfl, rfl, rfl, fun j hj => ?_⟩, trivial⟩, trivial, rfl, rfl⟩, (by show n - (i + 1) < n - i; omega)⟩
    show (if j < i then F j else litF 5 (F i) (j - i)) = F j
    split
    · rfl
    · have : j = i := by have : j < i + 1 := hj; omega
      subst this; rw [Nat.sub_self]; rfl
  · have q : decide ((i : Int) < n) = false := decide_eq_false (by omega)
    have : i = n := by omega
    subst this
    conv => whnf
    split
    · rename_i h
      exact Bool.noConfusion ((q).symm.trans h)
    rename_i hN
    clear hN
    conv => whnf
    exact ⟨rfl, rfl⟩
end Go.Proofs.YtkdlegfakefjgaaGreatDoor.Ix

/-
  IxSh: the shapes of blades and flows, and the blades and flows that fit them.
-/
namespace Go.Proofs.YtkdlegfakefjgaaGreatDoor.Ix

abbrev intS : Shp := .int .i64
def intAt (l : List IV) (j : Nat) : Int := match l[j]? with
  | some (.int _ n) => n
  | _ => 0

theorem fit_ints : ∀ (n : Nat) (xs : List IV), FitL (List.replicate n (1, intS)) xs → xs = (List.range n).map fun j => IV.int .i64 (intAt xs j)
  | 0, xs, h => by simpa [FitL] using h
  | n + 1, xs, h => by
    simp only [List.replicate_succ, FitL] at h
    obtain ⟨ys, zs, rfl, hl, ⟨m, rfl, _⟩, h2⟩ := h
    have ih := fit_ints n zs h2
    rw [List.range_succ_eq_map, List.map_cons, List.map_map]
    refine List.cons_eq_cons.2 ⟨rfl, ?_⟩
    show zs = _
    rw [show ((fun j => IV.int .i64 (intAt ([IV.int .i64 m] ++ zs) j)) ∘ Nat.succ) = fun j => IV.int .i64 (intAt zs j) from by funext j; simp [intAt]]
    exact ih

theorem leL_append : ∀ {xs ys us vs : List IV}, leL xs us → leL ys vs → leL (xs ++ ys) (us ++ vs)
  | [], _, [], _, _, h => h
  | [], _, _ :: _, _, h, _ => h.elim
  | _ :: _, _, [], _, h, _ => h.elim
  | _ :: _, _, _ :: _, _, h, k => ⟨h.1, leL_append h.2 k⟩

theorem fit_u8s : ∀ (n : Nat) (xs : List IV), FitL (List.replicate n (1, .int .u8)) xs → xs = (List.range n).map (fun j => IV.int .u8 (intAt xs j)) ∧ ∀ j, j < n → 0 ≤ intAt xs j ∧ intAt xs j < 256
  | 0, xs, h => by
    simp only [List.replicate_zero, FitL] at h
    exact ⟨by simpa using h, fun j hj => by omega⟩
  | n + 1, xs, h => by
    simp only [List.replicate_succ, FitL] at h
    obtain ⟨ys, zs, rfl, hl, ⟨m, rfl, hw⟩, h2⟩ := h
    obtain ⟨ih, ih2⟩ := fit_u8s n zs h2
    refine ⟨?_, fun j hj => ?_⟩
    · rw [List.range_succ_eq_map, List.map_cons, List.map_map]
      refine List.cons_eq_cons.2 ⟨rfl, ?_⟩
      show zs = _
      rw [show ((fun j => IV.int .u8 (intAt ([IV.int .u8 m] ++ zs) j)) ∘ Nat.succ) = fun j => IV.int .u8 (intAt zs j) from by funext j; simp [intAt]]
      exact ih
    · cases j with
      | zero =>
        have e : intAt ([IV.int .u8 m] ++ zs) 0 = m := rfl
        rw [e]
        simp [Lit.wf, IntKind.min, IntKind.max, IntKind.signed, IntKind.bits] at hw
        omega
      | succ j =>
        have e : intAt ([IV.int .u8 m] ++ zs) (j + 1) = intAt zs j := by simp [intAt]
        rw [e]; exact ih2 j (by omega)

end Go.Proofs.YtkdlegfakefjgaaGreatDoor.Ix

/-
  IxSh2: pairs, loads, whole numbers that fit their shapes.
-/
namespace Go.Proofs.YtkdlegfakefjgaaGreatDoor.Ix

abbrev tripShp : Shp := .agg [(1, intS), (1, intS), (1, intS)]

theorem fit_int {v : IV} (h : FitV intS v) : ∃ n, v = .int .i64 n := by
  obtain ⟨m, h, _⟩ := h
  exact ⟨m, (List.cons.inj h).1⟩

theorem cells3 {ys : List IV} (h : Fit tripShp ys) : ∃ a b c, ys = [.int .i64 a, .int .i64 b, .int .i64 c] := by
  have := fit_ints 3 ys h
  exact ⟨intAt ys 0, intAt ys 1, intAt ys 2, by rw [this]; simp [intAt, List.range, List.range.loop]⟩
theorem cells1 {ys : List IV} (h : Fit intS ys) : ∃ a, ys = [.int .i64 a] := by
  obtain ⟨m, rfl, _⟩ := h
  exact ⟨m, rfl⟩

end Go.Proofs.YtkdlegfakefjgaaGreatDoor.Ix

/-
  Kf1: what fits the shapes of machines, states and acts, and of lists of them.
-/
namespace Go.Proofs.YtkdlegfakefjgaaGreatDoor.Ix
open Go.Proofs
set_option linter.unusedVariables false
set_option linter.unusedSimpArgs false

abbrev machShp : Shp := .agg [(1, intS), (1, intS), (1, intS), (1, intS), (1, intS), (1, intS), (1, intS)]
abbrev stateShp : Shp := .agg [(1, .str), (1, intS), (3, .agg [(1, intS), (1, intS), (1, intS)]), (1, intS), (1, intS)]
abbrev actShp : Shp := .agg [(1, .str), (1, intS), (1, intS), (1, intS), (1, intS)]

theorem fit_mach {v : IV} (h : FitV machShp v) : ∃ m : Mc, v = m.iv := by
  obtain ⟨xs, rfl, h⟩ := h
  have := fit_ints 7 xs h
  exact ⟨⟨intAt xs 0, intAt xs 1, intAt xs 2, intAt xs 3, intAt xs 4, intAt xs 5, intAt xs 6⟩, by rw [this]; simp [intAt, List.range, List.range.loop, Mc.iv]⟩

theorem cellsS {ys : List IV} (h : Fit .str ys) : ∃ s, ys = [.str s] ∧ s.size ≤ maxLen := by
  obtain ⟨s, rfl, h⟩ := h
  exact ⟨s, rfl, h⟩

theorem cells_state {xs : List IV} (h : Fit stateShp xs) : ∃ s : Sta, xs = s.cs ∧ s.mode.size ≤ maxLen := by
  unfold stateShp at h
  simp only [Fit, FitL] at h
  obtain ⟨y1, z1, rfl, _, h1, y2, z2, rfl, _, h2, y3, z3, rfl, _, h3, y4, z4, rfl, _, h4, y5, z5, rfl, _, h5, rfl⟩ := h
  obtain ⟨a, rfl, ha⟩ := h1
  obtain ⟨b, rfl⟩ := cells1 h2
  obtain ⟨p, q, r, rfl⟩ := cells3 h3
  obtain ⟨t, rfl⟩ := cells1 h4
  obtain ⟨u, rfl⟩ := cells1 h5
  exact ⟨⟨a, b, p, q, r, t, u⟩, rfl, ha⟩

theorem fit_state {v : IV} (h : FitV stateShp v) : ∃ s : Sta, v = s.iv ∧ s.mode.size ≤ maxLen := by
  obtain ⟨xs, rfl, h⟩ := h
  obtain ⟨s, rfl, hs⟩ := cells_state h
  exact ⟨s, rfl, hs⟩

theorem cells_act {xs : List IV} (h : Fit actShp xs) : ∃ a : Ac, xs = a.cs ∧ a.kind.size ≤ maxLen := by
  unfold actShp at h
  simp only [Fit, FitL] at h
  obtain ⟨y1, z1, rfl, _, h1, y2, z2, rfl, _, h2, y3, z3, rfl, _, h3, y4, z4, rfl, _, h4, y5, z5, rfl, _, h5, rfl⟩ := h
  obtain ⟨a, rfl, ha⟩ := h1
  obtain ⟨b, rfl⟩ := cells1 h2
  obtain ⟨c, rfl⟩ := cells1 h3
  obtain ⟨t, rfl⟩ := cells1 h4
  obtain ⟨u, rfl⟩ := cells1 h5
  exact ⟨⟨a, b, c, t, u⟩, rfl, ha⟩

theorem fit_act {v : IV} (h : FitV actShp v) : ∃ a : Ac, v = a.iv ∧ a.kind.size ≤ maxLen := by
  obtain ⟨xs, rfl, h⟩ := h
  obtain ⟨s, rfl, hs⟩ := cells_act h
  exact ⟨s, rfl, hs⟩

noncomputable def staAt (f : Nat → List IV) (i : Nat) : Sta := open Classical in if h : ∃ s : Sta, f i = s.cs then h.choose else Sta.zero
theorem staAt_eq {f : Nat → List IV} {i : Nat} (h : ∃ s : Sta, f i = s.cs) : f i = (staAt f i).cs := by
  unfold staAt
  rw [dif_pos h]
  exact h.choose_spec
noncomputable def acAt (f : Nat → List IV) (i : Nat) : Ac := open Classical in if h : ∃ s : Ac, f i = s.cs then h.choose else ⟨ByteArray.empty, 0, 0, 0, 0⟩
theorem acAt_eq {f : Nat → List IV} {i : Nat} (h : ∃ s : Ac, f i = s.cs) : f i = (acAt f i).cs := by
  unfold acAt
  rw [dif_pos h]
  exact h.choose_spec

theorem cells_states {xs : List IV} (h : Fit (.slice 7 stateShp) xs) : ∃ (n : Nat) (f : Nat → Sta), n ≤ maxLen ∧ leL xs [.lst none 7 n fun i => (f i).cs] := by
  obtain ⟨n, f, rfl, hn, hf⟩ := h
  refine ⟨n, staAt f, hn, ⟨.inl rfl, rfl, rfl, fun i hi => staAt_eq ?_⟩, trivial⟩
  obtain ⟨_, hf⟩ := hf i hi
  obtain ⟨s, hs, _⟩ := cells_state hf
  exact ⟨s, hs⟩

theorem fit_acts {v : IV} (h : FitV (.slice 5 actShp) v) : ∃ (n : Nat) (f : Nat → Ac), n ≤ maxLen ∧ leV v (.lst none 5 n fun i => (f i).cs) := by
  obtain ⟨n, f, h, hn, hf⟩ := h
  obtain rfl := (List.cons.inj h).1
  refine ⟨n, acAt f, hn, .inl rfl, rfl, rfl, fun i hi => acAt_eq ?_⟩
  obtain ⟨_, hf⟩ := hf i hi
  obtain ⟨s, hs, _⟩ := cells_act hf
  exact ⟨s, hs⟩

theorem fit_claim {v : IV} (h : FitV (.agg [(1, intS), (1, .slice 7 stateShp)]) v) : ∃ (a : Int) (n : Nat) (f : Nat → Sta), n ≤ maxLen ∧ leV v (.agg [.int .i64 a, .lst none 7 n fun i => (f i).cs]) := by
  obtain ⟨xs, rfl, h⟩ := h
  simp only [FitL] at h
  obtain ⟨y1, z1, rfl, _, h1, y2, z2, rfl, _, h2, rfl⟩ := h
  obtain ⟨a, rfl⟩ := cells1 h1
  obtain ⟨n, f, hn, hl⟩ := cells_states h2
  refine ⟨a, n, f, hn, ?_⟩
  have := leL_append (show leL [IV.int .i64 a] [.int .i64 a] from ⟨leV_refl _, trivial⟩) hl
  simpa [leV] using this

theorem fit_ints1 {v : IV} (h : FitV (.slice 1 intS) v) : ∃ (n : Nat) (f : Nat → Int), n ≤ maxLen ∧ leV v (.lst none 1 n fun i => [.int .i64 (f i)]) := by
  obtain ⟨n, f, h, hn, hf⟩ := h
  obtain rfl := (List.cons.inj h).1
  refine ⟨n, fun i => intAt (f i) 0, hn, .inl rfl, rfl, rfl, fun i hi => ?_⟩
  obtain ⟨_, m, hm, _⟩ := hf i hi
  show f i = [.int .i64 (intAt (f i) 0)]
  rw [hm]; rfl

theorem fit_u8pair {v : IV} (h : FitV (.agg [(1, .int .u8), (1, .int .u8)]) v) : ∃ a b, v = .agg [.int .u8 a, .int .u8 b] ∧ (0 ≤ a ∧ a < 256) ∧ (0 ≤ b ∧ b < 256) := by
  obtain ⟨xs, rfl, h⟩ := h
  obtain ⟨e, hb⟩ := fit_u8s 2 xs h
  exact ⟨intAt xs 0, intAt xs 1, by rw [e]; simp [intAt, List.range, List.range.loop], hb 0 (by decide), hb 1 (by decide)⟩
end Go.Proofs.YtkdlegfakefjgaaGreatDoor.Ix

/-
  Ix33: the tables that a row lists as laid, as what is told of the variables.
-/
namespace Go.Proofs.YtkdlegfakefjgaaGreatDoor.Ix
open Go.RowKit
set_option linter.unusedVariables false

theorem laid_in {P : Program} {w : World} {n : String} {d : DataW Unit} : ∀ {l : List (String × DataW Unit)} {ps : List MemPlace}, DataW.LaidVars P w l ps → (n, d) ∈ l →
    ∃ g t cs fuel p, P.globalNamed n = some g ∧ (P.globals[g]?).map (·.type) = some t ∧ w.var? P n = some cs ∧ DataW.trod (fun _ => ()) P w 0 (fun _ => true) false fuel t cs.toList = some (d, p)
  | [], ps, _, hm => by cases hm
  | (m, e) :: r, ps, h, hm => by
    simp only [DataW.LaidVars] at h
    obtain ⟨g, t, cs, fuel, p, q, h1, h2, h3, h4, h5, _⟩ := h
    cases hm with
    | head => exact ⟨g, t, cs, fuel, p, h1, h2, h3, h4⟩
    | tail _ hm => exact laid_in h5 hm

theorem laid_tab {P : Program} {w : World} {laid : List (String × DataW Unit)} (h : laidMetH P laid w) (hp : (laid.all fun x => x.2.handleName?.isNone) = true) {n : String} {d : DataW Unit} {g t : Nat} (hm : (n, d) ∈ laid)
    (hg : P.globalNamed n = some g) (ht : (P.globals[g]?).map (·.type) = some t) {s : Shp} (hs : shpB P s t = true) (hf : flatS s = true) {vs : List Value} (hv : flatD d = vs) :
    (∀ j, w.cell? ⟨g, j, none⟩ = vs[j]?) ∧ ∃ arr el m, w.heap[g]? = some (.cells arr el m) ∧ arr.size = vs.length := by
  rw [MakeChecks.laidMetH_plain _ _ _ hp] at h
  obtain ⟨ps, h, _, _⟩ := h
  obtain ⟨g0, t0, cs0, f0, p0, hg0, ht0, hv0, hd0⟩ := laid_in h hm
  obtain rfl := Option.some.inj (hg.symm.trans hg0)
  obtain rfl := Option.some.inj (ht.symm.trans ht0)
  have hfl := flat_of_trod s _ (shp_ok _ _ hs) hf _ _ _ hd0
  have hcs : cs0.toList = vs := by rw [← hfl]; exact hv
  refine ⟨fun j => ?_, ?_⟩
  · have := World.var?_cell hg0 hv0 j
    rw [← hcs]
    simpa using this
  · unfold World.var? at hv0
    rw [hg0] at hv0
    simp only [Option.bind_some] at hv0
    split at hv0
    · rename_i arr el m he
      cases hv0
      exact ⟨_, _, _, he, by rw [← hcs]; simp⟩
    · cases hv0

/-- A row of integers at a variable's head. -/
theorem D_tab {I : Imm} {g : Nat} (xs : List IV) (vs : List Value) (hl : xs.length = vs.length) (hI : ∀ j v, vs[j]? = some v → I ⟨g, j, none⟩ = some v)
    (hx : ∀ (j : Nat) x, xs[j]? = some x → ∃ k z, x = .int k z ∧ vs[j]? = some (.int k z)) : D I (.vptr xs.length 1 (fun _ => xs) 0 0) (.pointer (some ⟨g, 0, none⟩)) := by
  have hat : ∀ j, j < xs.length → vs[j]? = some (vs.getD j undef) := fun j hj => by
    rw [List.getD_eq_getElem?_getD, List.getElem?_eq_getElem (by omega)]; rfl
  have := D.vptr (I := I) xs.length 1 (fun _ => xs) 0 0 g 0 (fun _ j => vs.getD j undef) (by decide) (fun _ _ => rfl)
    (fun i j hi hj => by
      have : i = 0 := by omega
      subst this
      simp only [Nat.zero_mul, Nat.zero_add]
      exact hI j _ (hat j hj))
    (fun i j hi hj => by
      obtain ⟨k, z, _, e⟩ := hx j _ (List.getElem?_eq_getElem hj)
      show (vs.getD j undef).oneCell' = true
      rw [List.getD_eq_getElem?_getD, e]; rfl)
    (fun i j x hi hxj => by
      obtain ⟨k, z, rfl, e⟩ := hx j x hxj
      show D I _ (vs.getD j undef)
      rw [List.getD_eq_getElem?_getD, e]; exact .int k z)
  simpa using this

/-- A row of values at a variable's head. -/
theorem D_tabG {I : Imm} {g : Nat} (xs : List IV) (vs : List Value) (hl : xs.length = vs.length) (hI : ∀ j v, vs[j]? = some v → I ⟨g, j, none⟩ = some v)
    (hx : ∀ (j : Nat) x, xs[j]? = some x → ∃ v, vs[j]? = some v ∧ v.oneCell' = true ∧ D I x v) : D I (.vptr xs.length 1 (fun _ => xs) 0 0) (.pointer (some ⟨g, 0, none⟩)) := by
  have hat : ∀ j, j < xs.length → vs[j]? = some (vs.getD j undef) := fun j hj => by
    rw [List.getD_eq_getElem?_getD, List.getElem?_eq_getElem (by omega)]; rfl
  have := D.vptr (I := I) xs.length 1 (fun _ => xs) 0 0 g 0 (fun _ j => vs.getD j undef) (by decide) (fun _ _ => rfl)
    (fun i j hi hj => by
      have : i = 0 := by omega
      subst this
      simp only [Nat.zero_mul, Nat.zero_add]
      exact hI j _ (hat j hj))
    (fun i j hi hj => by
      obtain ⟨v, e, h1, _⟩ := hx j _ (List.getElem?_eq_getElem hj)
      show (vs.getD j undef).oneCell' = true
      rw [List.getD_eq_getElem?_getD, e]; exact h1)
    (fun i j x hi hxj => by
      obtain ⟨v, e, _, h2⟩ := hx j x hxj
      show D I _ (vs.getD j undef)
      rw [List.getD_eq_getElem?_getD, e]; exact h2)
  simpa using this
end Go.Proofs.YtkdlegfakefjgaaGreatDoor.Ix

/-
  RowC: what all rows of the seat of chapter 5 share: the tables that are laid, the start that meets them.
-/
namespace Go.Proofs.YtkdlegfakefjgaaGreatDoor
open Go Go.ChangeShapes Go.WideShapes Go.ChangeAt Go.RowKit Go.Proofs.YtkdlegfakefjgaaGreatDoor.Ix
set_option linter.unusedVariables false

theorem own : ownKnob Tryz.prog.godebug = none := by kernel_rfl
theorem laidOut : laidOutB Tryz.prog = true := by kernel_rfl
theorem gKinds : Tryz.prog.globalNamed "nacelle/control.kinds" = some 0 := by kernel_rfl
theorem tKinds : (Tryz.prog.globals[0]?).map (·.type) = some 155 := by kernel_rfl
noncomputable abbrev laid4 : List (String × DataW Unit) := [("math/bits.deBruijn32tab", Rows.laid_math_bits_deBruijn32tab), ("math/bits.deBruijn64tab", Rows.laid_math_bits_deBruijn64tab), ("internal/strconv.uint64pow10", Rows.laid_internal_strconv_uint64pow10), ("nacelle/control.kinds", Rows.laid_nacelle_control_kinds)]
theorem plain4 : (laid4.all fun x => x.2.handleName?.isNone) = true := by kernel_rfl
abbrev kindsShp : Shp := .agg (List.replicate 6 (1, .str))
abbrev powShp : Shp := .agg (List.replicate 20 (1, .int .u64))
theorem shapeKinds : shpB Tryz.prog kindsShp 155 = true := by kernel_rfl

theorem door_met (os : Os) (args : Array Value) : laidMetH Tryz.prog laid4 ((World.doorLaid Tryz.prog 400 os).forCall (fun _ _ => 0) ⟨#[], args, []⟩).memory :=
  laidMetH_of_parts3 (fuel := 8) (laidMet_of_run' 8 (by kernel_rfl) (by kernel_rfl)) (by kernel_rfl) (by kernel_rfl)

/-- What is told of the package's variables. -/
noncomputable def gl4 : Nat → IV := fun g => match g with
  | 0 => kindsI
  | 1 => powI
  | _ => .dead

abbrev kindsV : List Value := [.string sBrake, .string sRepair, .string sRest, .string sStart, .string sStop, .string sTick]

theorem kinds_in {W : World} (h : laidMetH Tryz.prog laid4 W) : (∀ j, W.cell? ⟨0, j, none⟩ = kindsV[j]?) ∧ ∃ arr el m, W.heap[0]? = some (.cells arr el m) ∧ arr.size = kindsV.length :=
  laid_tab h plain4 (d := Rows.laid_nacelle_control_kinds) (by simp) gKinds tKinds shapeKinds rfl rfl
theorem tPow : (Tryz.prog.globals[1]?).map (·.type) = some 233 := by kernel_rfl
theorem shapePow : shpB Tryz.prog powShp 233 = true := by kernel_rfl
noncomputable abbrev powV : List Value := Go.Lib.pow10Tab.map fun z => .int .u64 z
theorem pow_in {W : World} (h : laidMetH Tryz.prog laid4 W) : (∀ j, W.cell? ⟨1, j, none⟩ = powV[j]?) ∧ ∃ arr el m, W.heap[1]? = some (.cells arr el m) ∧ arr.size = powV.length :=
  laid_tab h plain4 (d := Rows.laid_internal_strconv_uint64pow10) (by simp) gPow tPow shapePow (by decide) (by kernel_rfl)

theorem glo4 {W : World} (h : laidMetH Tryz.prog laid4 W) : ∀ g, D (fun a => W.cell? a) (gl4 g) (.pointer (some ⟨g, 0, none⟩)) := by
  intro g
  match g with
  | 0 =>
    refine D_tabG [.str sBrake, .str sRepair, .str sRest, .str sStart, .str sStop, .str sTick] kindsV rfl (fun j v hv => by rw [(kinds_in h).1]; exact hv) fun j x hx => ?_
    match j, hx with
    | 0, hx | 1, hx | 2, hx | 3, hx | 4, hx | 5, hx => cases hx; exact ⟨_, rfl, rfl, .str _⟩
    | _ + 6, hx => cases hx
  | 1 =>
    have := D_tab (I := fun a => W.cell? a) (g := 1) (Go.Lib.pow10Tab.map fun z => IV.int .u64 z) powV (by simp) (fun j v hv => by rw [(pow_in h).1]; exact hv) fun j x hx => by
      rw [List.getElem?_map, Option.map_eq_some_iff] at hx
      obtain ⟨z, hz, rfl⟩ := hx
      exact ⟨_, _, rfl, by rw [List.getElem?_map, hz]; rfl⟩
    rw [List.length_map] at this
    exact this
  | _ + 2 => exact .dead _

theorem gsz4 {W : World} (h : laidMetH Tryz.prog laid4 W) : Gsz gl4 W := by
  intro g e n f i j hg hn he
  match g, hg with
  | 0, hg =>
    have hg : kindsI = .vptr e n f i j := hg
    injection hg with h1 h2
    subst h1; subst h2
    obtain ⟨arr, el, m, k1, k2⟩ := (kinds_in h).2
    exact ⟨arr, el, m, k1, by rw [k2]; rfl⟩
  | 1, hg =>
    have hg : powI = .vptr e n f i j := hg
    injection hg with h1 h2
    subst h1; subst h2
    obtain ⟨arr, el, m, k1, k2⟩ := (pow_in h).2
    exact ⟨arr, el, m, k1, by rw [k2]; simp⟩
  | _ + 2, hg => cases hg
end Go.Proofs.YtkdlegfakefjgaaGreatDoor

/-
  Ix36: the cells of a row that is written in, one by one.
-/
namespace Go.Proofs.YtkdlegfakefjgaaGreatDoor.Ix
set_option linter.unusedVariables false

theorem flatR_get {e n : Nat} {f : Nat → List IV} {i j : Nat} {x : IV} (hi : i < n) (hj : j < e) (hx : (f i)[j]? = some x) : (flatR e n f)[i * e + j]? = some x := by
  have hlt : i * e + j < n * e := by
    have := Nat.mul_le_mul_right e (show i + 1 ≤ n by omega)
    rw [Nat.add_mul] at this; omega
  have he : 0 < e := by omega
  have e1 : (i * e + j) / e = i := by rw [Nat.mul_comm, Nat.mul_add_div he, Nat.div_eq_of_lt hj]; rfl
  have e2 : (i * e + j) % e = j := by rw [Nat.mul_comm, Nat.mul_add_mod, Nat.mod_eq_of_lt hj]
  simp only [flatR, List.getElem?_map, List.getElem?_range hlt, Option.map_some, e1, e2, hx, Option.getD_some]

theorem flat_nth {e n : Nat} {f : Nat → List IV} {junk : List IV} {i j : Nat} {x : IV} (hi : i < n) (hj : j < e) (hx : (f i)[j]? = some x) : nthI (flatR e n f ++ junk) (i * e + j) = some x := by
  have hlt : i * e + j < n * e := by
    have := Nat.mul_le_mul_right e (show i + 1 ≤ n by omega)
    rw [Nat.add_mul] at this; omega
  rw [nthI_eq, List.getElem?_append_left (by rw [flatR_len]; exact hlt)]
  exact flatR_get hi hj hx

theorem lay_one : ∀ (l : List IV) (k : Nat) (v : IV), k < l.length → lay l k [v] = some (l.set k v)
  | [], k, v, h => by simp at h
  | x :: r, 0, v, _ => by
    have : lay r 0 [] = some r := by cases r <;> rfl
    simp [lay, this]
  | x :: r, k + 1, v, h => by
    simp only [lay]
    rw [lay_one r k v (by simpa using h)]
    rfl

/-- The row with one cell written. -/
def setRow (f : Nat → List IV) (i j : Nat) (v : IV) : Nat → List IV := fun k => if k = i then (f i).set j v else f k

theorem flatR_set {e n : Nat} {f : Nat → List IV} {i j : Nat} {v : IV} (hi : i < n) (hj : j < e) (hl : (f i).length = e) : (flatR e n f).set (i * e + j) v = flatR e n (setRow f i j v) := by
  have he : 0 < e := by omega
  apply List.ext_getElem?
  intro k
  rw [List.getElem?_set]
  by_cases hk : k < n * e
  · have hkn : k / e < n := (Nat.div_lt_iff_lt_mul he).2 hk
    have hke : k % e < e := Nat.mod_lt _ he
    have hdm : k / e * e + k % e = k := by rw [Nat.mul_comm]; exact Nat.div_add_mod k e
    have hR : (flatR e n (setRow f i j v))[k]? = some (((setRow f i j v) (k / e))[k % e]?.getD .dead) := by
      simp only [flatR, List.getElem?_map, List.getElem?_range hk, Option.map_some]
    rw [hR]
    by_cases hq : i * e + j = k
    · have e1 : k / e = i := by rw [← hq, Nat.mul_comm, Nat.mul_add_div he, Nat.div_eq_of_lt hj]; rfl
      have e2 : k % e = j := by rw [← hq, Nat.mul_comm, Nat.mul_add_mod, Nat.mod_eq_of_lt hj]
      rw [if_pos hq, if_pos (by rw [flatR_len, hq]; exact hk), e1, e2]
      simp only [setRow, if_true]
      rw [List.getElem?_set_self (by omega)]
      rfl
    · rw [if_neg hq]
      simp only [flatR, List.getElem?_map, List.getElem?_range hk, Option.map_some]
      by_cases hki : k / e = i
      · have hjk : j ≠ k % e := fun h => hq (by rw [← hki, h]; exact hdm)
        simp only [setRow, if_pos hki]
        rw [List.getElem?_set_ne hjk, hki]
      · simp only [setRow, if_neg hki]
  · have h1 : (flatR e n f)[k]? = none := List.getElem?_eq_none (by rw [flatR_len]; omega)
    have h2 : (flatR e n (setRow f i j v))[k]? = none := List.getElem?_eq_none (by rw [flatR_len]; omega)
    rw [h1, h2]
    split
    · split
      · rename_i hq hlt
        rw [flatR_len, hq] at hlt
        omega
      · rfl
    · rfl

theorem flat_lay {e n : Nat} {f : Nat → List IV} {junk : List IV} {i j : Nat} {v : IV} (hi : i < n) (hj : j < e) (hl : (f i).length = e) : lay (flatR e n f ++ junk) (i * e + j) [v] = some (flatR e n (setRow f i j v) ++ junk) := by
  have hlt : i * e + j < n * e := by
    have := Nat.mul_le_mul_right e (show i + 1 ≤ n by omega)
    rw [Nat.add_mul] at this; omega
  rw [lay_one _ _ _ (by rw [List.length_append, flatR_len]; omega), List.set_append_left _ _ (by rw [flatR_len]; exact hlt), flatR_set hi hj hl]

theorem clL_of {t : List Nat} : ∀ {l : List IV}, (∀ x ∈ l, clV t x = true) → clL t l = true
  | [], _ => by simp [clL]
  | x :: r, h => by
    simp only [clL, Bool.and_eq_true]
    exact ⟨h x (by simp), clL_of fun y hy => h y (by simp [hy])⟩

theorem allInt_cl {t : List Nat} : ∀ {l : List IV}, allInt l = true → ∀ x ∈ l, clV t x = true
  | .int k v :: r, h, x, hx => by
    simp only [List.mem_cons] at hx
    rcases hx with rfl | hx
    · simp [clV]
    · exact allInt_cl (by simpa [allInt] using h) x hx

theorem flat_cl {t : List Nat} {e n m : Nat} {f : Nat → List IV} (hi : ∀ i, i < n → allInt (f i) = true) : clL t (flatR e n f ++ List.replicate m .dead) = true := by
  refine clL_of fun x hx => ?_
  rw [List.mem_append] at hx
  rcases hx with hx | hx
  · simp only [flatR, List.mem_map, List.mem_range] at hx
    obtain ⟨k, hk, rfl⟩ := hx
    have he : 0 < e := by
      rcases Nat.eq_zero_or_pos e with h | h
      · rw [h, Nat.mul_zero] at hk; omega
      · exact h
    have hkn : k / e < n := (Nat.div_lt_iff_lt_mul he).2 hk
    cases hq : (f (k / e))[k % e]? with
    | none => simp [clV]
    | some y =>
      have := allInt_cl (t := t) (hi _ hkn) y (List.mem_of_getElem? hq)
      simpa using this
  · rw [List.mem_replicate] at hx
    rw [hx.2]
    simp [clV]

end Go.Proofs.YtkdlegfakefjgaaGreatDoor.Ix

/-
  Ix37: a row told as data again, its length known to be that of the row.
-/
namespace Go.Proofs.YtkdlegfakefjgaaGreatDoor.Ix
set_option linter.unusedVariables false

end Go.Proofs.YtkdlegfakefjgaaGreatDoor.Ix

/-
  Ca15: control.Ramps and what it computes.
-/
namespace Go.Proofs.YtkdlegfakefjgaaGreatDoor.Ix
open Go.Proofs
set_option maxRecDepth 100000
set_option linter.unusedVariables false
set_option linter.unusedSimpArgs false
variable {gl : Nat → IV}

theorem flat_nth0 {e n : Nat} {f : Nat → List IV} {i j : Nat} {x : IV} (hi : i < n) (hj : j < e) (hx : (f i)[j]? = some x) : nthI (flatR e n f) (i * e + j) = some x := by
  have := flat_nth (junk := []) hi hj hx
  simpa using this
theorem flat_lay0 {e n : Nat} {f : Nat → List IV} {i j : Nat} {v : IV} (hi : i < n) (hj : j < e) (hl : (f i).length = e) : lay (flatR e n f) (i * e + j) [v] = some (flatR e n (setRow f i j v)) := by
  have := flat_lay (junk := []) (v := v) hi hj hl
  simpa using this

theorem flat_cl0 {t : List Nat} {e n : Nat} {f : Nat → List IV} (hi : ∀ i, i < n → allInt (f i) = true) : clL t (flatR e n f) = true := by
  have := flat_cl (t := t) (e := e) (m := 0) hi
  simpa using this

/-- 'mapped' by a function that captures nothing. -/
theorem c_mapped0 (up : List Ces) (n : Nat) (hn : n ≤ 1000000) (f φ : Nat → Int) (k : Nat) (hk : ∀ up i, i < n → Cs gl k up [.int .i64 (f i)] (.int .i64 (φ i)) up) :
    Cs gl n_control_mapped_int_api_Errno up [.lst none 1 n fun i => [.int .i64 (f i)], .fn k [] []] (.lst (some 19) 1 n fun i => [.int .i64 (φ i)]) up := by
  refine mk h_control_mapped_int_api_Errno rfl rfl ?_
  conv => whnf
  refine .mk (α := {i : Nat // i ≤ n}) (fun i => ⟨[(10, .int .i64 i.1), (9, .int .i64 n), (8, .lst none 1 n fun i => [.int .i64 (f i)]), (5, .lst (some 19) 1 i.1 fun i => [.int .i64 (φ i)]), (1, .fn k [] [])], [], up⟩) (fun i => n - i.1) ⟨0, Nat.zero_le _⟩ ⟨?_, trivial, rfl, rfl⟩ ?_
  · exact ⟨leV_refl _, leV_refl _, leV_refl _, rfl, leV_refl _, trivial⟩
  rintro ⟨i, hi⟩
  have hw : w64 ((i : Int) + 1) = ((i + 1 : Nat) : Int) := by rw [w64, wrap_in] <;> omega
  by_cases hlt : i < n
  · have q : decide ((i : Int) < n) = true := decide_eq_true (by omega)
    conv => whnf
    split
    rotate_left
    · rename_i h
      exact Bool.noConfusion ((q).symm.trans h)
    rename_i hN
    clear hN
    conv => whnf
    split
    rotate_left
    · rename_i h
      exact Bool.noConfusion ((q).symm.trans h)
    rename_i hN
    clear hN
    conv => whnf
    refine .mk _ _ _ _ _ (leL_refl _) (hk _ i hlt) rfl ?_
    conv => whnf
    split
    rotate_left
    · rename_i h
      have h' : decide (i + 1 ≤ 1073741824) = false := h
      simp at h' <;> omega
    conv => whnf
    refine ⟨⟨i + 1, hlt⟩, ⟨⟨leV_int hw, leV_refl _, leV_refl _, ⟨.inr rfl, rfl, rfl, fun j hj => ?_⟩, leV_refl _, trivial⟩, trivial, rfl, rfl⟩, (by show n - (i + 1) < n - i; omega)⟩
    show (if j < i then [IV.int .i64 (φ j)] else litF 1 [.int .i64 (φ i)] (j - i)) = [IV.int .i64 (φ j)]
    split
    · rfl
    · have : j = i := by have : j < i + 1 := hj; omega
      subst this; rw [Nat.sub_self]; rfl
  · have q : decide ((i : Int) < n) = false := decide_eq_false (by omega)
    have : i = n := by omega
    subst this
    conv => whnf
    split
    · rename_i h
      exact Bool.noConfusion ((q).symm.trans h)
    rename_i hN
    clear hN
    conv => whnf
    exact ⟨rfl, rfl⟩

theorem c_f105 (up : List Ces) (x : Int) : Cs gl n_control_Ramps_1 up [.int .i64 x] (.int .i64 (withinS x 0 999999999)) up := by
  refine mk h_control_Ramps_1 rfl rfl ?_
  conv => whnf
  refine .mk _ _ _ _ _ (leL_refl _) (c_within _ _ _ _) rfl ?_
  conv => whnf
  exact ⟨rfl, rfl⟩

/-- The error of a ramp's question; the first place where it is too steep. -/
def rampF (w : Nat → Int) (n : Nat) (M : Int) (i : Nat) : Int := if i < n then withinS (w i) 0 999999999 else withinS M 0 999999999
def rampE (n : Nat) (w : Nat → Int) (M : Int) : Int := bif decide ((n : Int) > 1024) then 5 else firstS (rampF w n M) (n + 1) 0
def steepB (w : Nat → Int) (M : Int) (i : Nat) : Bool := decide (maxW (w64 (w i - w (i - 1))) (w64 (0 - (w64 (w i - w (i - 1))))) > M)
def rampN (w : Nat → Int) (M : Int) : Nat → Nat → Int
  | 0, _ => -1
  | k + 1, i => bif steepB w M i then (i : Int) else rampN w M k (i + 1)

def stF (w : Nat → Int) (p i : Nat) : List IV := [.int .i64 (if p < i then w64 (w i - w (i - 1)) else w i)]

theorem st_nth {w : Nat → Int} {n p i : Nat} (hi : i < n) (hp : i ≤ p) : nthI (flatR 1 n (stF w p)) (i * 1 + 0) = some (.int .i64 (w i)) :=
  flat_nth0 hi (by decide) (by simp [stF, show ¬ p < i by omega])
theorem st_nth1 {w : Nat → Int} {n p i : Nat} (hi : i < n) (hp : p < i) : nthI (flatR 1 n (stF w p)) (i * 1 + 0) = some (.int .i64 (w64 (w i - w (i - 1)))) :=
  flat_nth0 hi (by decide) (by simp [stF, hp])
theorem st_lay {w : Nat → Int} {n p : Nat} (hi : p + 1 < n) : lay (flatR 1 n (stF w (p + 1))) ((p + 1) * 1 + 0) [.int .i64 (w64 (w (p + 1) - w p))] = some (flatR 1 n (stF w p)) := by
  rw [flat_lay0 (e := 1) (f := stF w (p + 1)) hi (by decide) rfl]
  refine congrArg (fun g => some (flatR 1 n g)) ?_
  funext z
  unfold setRow
  by_cases hz : z = p + 1
  · subst hz; simp [stF]
  · rw [if_neg hz]
    unfold stF
    by_cases h : p < z
    · rw [if_pos h, if_pos (by omega)]
    · rw [if_neg h, if_neg (by omega)]

theorem st_start (w : Nat → Int) {n N : Nat} (hN : n = N + 1) : leL (flatR 1 n fun i => [.int .i64 (w i)]) (flatR 1 n (stF w N)) := by
  subst hN
  rw [show (flatR 1 (N + 1) fun i => [IV.int .i64 (w i)]) = flatR 1 (N + 1) (stF w N) from ?_]
  · exact leL_refl _
  unfold flatR
  refine List.map_congr_left fun k hk => ?_
  rw [List.mem_range] at hk
  unfold stF
  rw [if_neg (by rw [Nat.div_one]; omega)]

set_option maxHeartbeats 8000000 in
theorem c_Ramps (up : List Ces) (n : Nat) (hn : n ≤ 10000000) (w : Nat → Int) (M : Int) :
    Cs gl n_control_Ramps up [.lst none 1 n fun i => [.int .i64 (w i)], .int .i64 M] (bif rampE n w M != 0 then .tup [.int .i64 0, .int .i64 (rampE n w M)] else .tup [.int .i64 (rampN w M (n - 1) 1), .int .i64 0]) up := by
  refine mk h_control_Ramps rfl rfl ?_
  unfold rampE
  cases q0 : decide ((n : Int) > 1024) with
  | true =>
    conv => whnf
    split
    rotate_left
    · rename_i h
      exact Bool.noConfusion ((q0).symm.trans h)
    rename_i hN
    clear hN
    conv => whnf
    exact ⟨rfl, rfl⟩
  | false =>
  rw [cond_false]
  have hn2 := of_decide_eq_false q0
  have hm := fun up => c_mapped0 (gl := gl) up n (by omega) w (fun i => withinS (w i) 0 999999999) n_control_Ramps_1 (fun up i _ => c_f105 up (w i))
  have hg := fun up => c_f105 (gl := gl) up M
  obtain ⟨E, hE⟩ : ∃ E, E = firstS (rampF w n M) (n + 1) 0 := ⟨_, rfl⟩
  have hF := fun up => c_first (gl := gl) up (n + 1) (by omega) (rampF w n M)
  rw [← hE] at hF ⊢
  have hFirst : ∀ (o : Option Nat) (k : Nat) (F : Nat → List IV), k = n + 1 → (∀ i, i < n + 1 → F i = [.int .i64 (rampF w n M i)]) → leL [.lst o 1 k F] [.lst none 1 (n + 1) fun i => [.int .i64 (rampF w n M i)]] := fun o k F hk hF => by
    subst hk
    exact ⟨⟨.inl rfl, rfl, rfl, hF⟩, trivial⟩
  have hel : ∀ i, i < n + 1 → (if i < n then [IV.int .i64 (withinS (w i) 0 999999999)] else litF 1 [.int .i64 (withinS M 0 999999999)] (i - n)) = [.int .i64 (rampF w n M i)] := fun i hi => by
    unfold rampF
    split
    · rfl
    · rw [show i - n = 0 by omega]; rfl
  cases q1 : (E != 0) with
  | true =>
    conv => whnf
    split
    · rename_i h
      exact Bool.noConfusion ((q0).symm.trans h)
    rename_i hN
    clear hN
    conv => whnf
    repeat first
      | (refine DRAW.seek ?_; repeat (first | refine TRYD.take ?_ | refine TRYD.next ?_); conv => whnf)
      | (refine HOLD.mk (by first | exact trivial | exact ⟨⟨rfl, rfl⟩, trivial⟩ | exact ⟨⟨rfl, rfl⟩, ⟨rfl, rfl⟩, trivial⟩) ?_; (conv => whnf))
      | (refine CALL0.by (hm ..) rfl ?_; conv => whnf)
      | (refine CALLQ.mk _ _ _ (leL_refl _) (hm ..) rfl ?_; conv => whnf)
      | (refine CALL0.by (hg ..) rfl ?_; conv => whnf)
      | (refine CALLQ.mk _ _ _ (leL_refl _) (hg ..) rfl ?_; conv => whnf)
    split
    rotate_left
    · rename_i h
      have h' : decide (n + 1 ≤ 1073741824) = false := h
      simp at h' <;> omega
    conv => whnf
    refine .mk _ _ _ _ _ (hFirst _ _ _ rfl hel) (hF _) rfl ?_
    conv => whnf
    split
    rotate_left
    · rename_i h
      exact Bool.noConfusion ((q1).symm.trans h)
    rename_i hN
    clear hN
    conv => whnf
    exact ⟨rfl, rfl⟩
  | false =>
    have qnn : decide ((n : Int) = n) = true := decide_eq_true rfl
    have qnt : decide (n = ((n : Int)).toNat) = true := decide_eq_true (by omega)
    have qsz : decide ((n : Int) ≤ 1073741824) = true := decide_eq_true (by omega)
    by_cases hz : n = 0
    · have hw0 : w64 ((n : Int) - 1) = -1 := by rw [w64, wrap_in] <;> omega
      have hcl : clL [29] (flatR 1 n fun i => [.int .i64 (w i)]) = true := flat_cl0 (fun i _ => rfl)
      have hr : rampN w M (n - 1) 1 = -1 := by rw [hz]; rfl
      rw [hr]
      conv => whnf
      split
      · rename_i h
        exact Bool.noConfusion ((q0).symm.trans h)
      rename_i hN
      clear hN
      conv => whnf
      repeat first
        | (refine DRAW.seek ?_; repeat (first | refine TRYD.take ?_ | refine TRYD.next ?_); conv => whnf)
        | (refine HOLD.mk (by first | exact trivial | exact ⟨⟨rfl, rfl⟩, trivial⟩ | exact ⟨⟨rfl, rfl⟩, ⟨rfl, rfl⟩, trivial⟩) ?_; (conv => whnf))
        | (refine CALL0.by (hm ..) rfl ?_; conv => whnf)
        | (refine CALLQ.mk _ _ _ (leL_refl _) (hm ..) rfl ?_; conv => whnf)
        | (refine CALL0.by (hg ..) rfl ?_; conv => whnf)
        | (refine CALLQ.mk _ _ _ (leL_refl _) (hg ..) rfl ?_; conv => whnf)
      split
      rotate_left
      · rename_i h
        have h' : decide (n + 1 ≤ 1073741824) = false := h
        simp at h' <;> omega
      conv => whnf
      refine .mk _ _ _ _ _ (hFirst _ _ _ rfl hel) (hF _) rfl ?_
      conv => whnf
      split
      · rename_i h
        exact Bool.noConfusion ((q1).symm.trans h)
      rename_i hN
      clear hN
      conv => whnf
      split
      rotate_left
      · rename_i h
        exact Bool.noConfusion ((qsz).symm.trans h)
      rename_i hN
      clear hN
      conv => whnf
      split
      rotate_left
      · rename_i h
        exact Bool.noConfusion ((qnn).symm.trans h)
      rename_i hN
      clear hN
      conv => whnf
      split
      rotate_left
      · rename_i h
        exact Bool.noConfusion ((qnt).symm.trans h)
      rename_i hN
      clear hN
      conv => whnf
      rw [Int.toNat_natCast]
      intro bb
      conv => whnf
      refine .mk (α := Unit) (fun _ => ⟨[(9, .int .i64 (-1)), (8, .row 29 1 n n bb), (1, .int .i64 M)], [(29, flatR 1 n fun i => [.int .i64 (w i)])], up⟩) (fun _ => 0) () ⟨⟨leV_int hw0, leV_refl _, leV_refl _, trivial⟩, ⟨leL_refl _, trivial⟩, rfl, ?_⟩ ?_
      · simp [clT, clC, clL, clV, keys, hcl]
      rintro ⟨⟩
      conv => whnf
      refine .mk (α := Unit) (fun _ => ⟨[(53, .int .i64 0), (52, .int .i64 n), (51, .row 29 1 n n bb), (1, .int .i64 M)], [(29, flatR 1 n fun i => [.int .i64 (w i)])], up⟩) (fun _ => 0) () ⟨⟨leV_refl _, leV_refl _, leV_refl _, leV_refl _, trivial⟩, ⟨leL_refl _, trivial⟩, rfl, ?_⟩ ?_
      · simp [clT, clC, clL, clV, keys, hcl]
      rintro ⟨⟩
      have q : decide ((0 : Int) < n) = false := decide_eq_false (by omega)
      conv => whnf
      split
      · rename_i h
        exact Bool.noConfusion ((q).symm.trans h)
      rename_i hN
      clear hN
      conv => whnf
      exact ⟨rfl, rfl⟩
    obtain ⟨N, hN⟩ : ∃ N, n = N + 1 := ⟨n - 1, by omega⟩
    obtain ⟨R, hR⟩ : ∃ R, R = rampN w M (n - 1) 1 := ⟨_, rfl⟩
    rw [← hR]
    conv => whnf
    split
    · rename_i h
      exact Bool.noConfusion ((q0).symm.trans h)
    rename_i hN
    clear hN
    conv => whnf
    repeat first
      | (refine DRAW.seek ?_; repeat (first | refine TRYD.take ?_ | refine TRYD.next ?_); conv => whnf)
      | (refine HOLD.mk (by first | exact trivial | exact ⟨⟨rfl, rfl⟩, trivial⟩ | exact ⟨⟨rfl, rfl⟩, ⟨rfl, rfl⟩, trivial⟩) ?_; (conv => whnf))
      | (refine CALL0.by (hm ..) rfl ?_; conv => whnf)
      | (refine CALLQ.mk _ _ _ (leL_refl _) (hm ..) rfl ?_; conv => whnf)
      | (refine CALL0.by (hg ..) rfl ?_; conv => whnf)
      | (refine CALLQ.mk _ _ _ (leL_refl _) (hg ..) rfl ?_; conv => whnf)
    split
    rotate_left
    · rename_i h
      have h' : decide (n + 1 ≤ 1073741824) = false := h
      simp at h' <;> omega
    conv => whnf
    refine .mk _ _ _ _ _ (hFirst _ _ _ rfl hel) (hF _) rfl ?_
    conv => whnf
    split
    · rename_i h
      exact Bool.noConfusion ((q1).symm.trans h)
    rename_i hN
    clear hN
    conv => whnf
    split
    rotate_left
    · rename_i h
      exact Bool.noConfusion ((qsz).symm.trans h)
    rename_i hN
    clear hN
    conv => whnf
    split
    rotate_left
    · rename_i h
      exact Bool.noConfusion ((qnn).symm.trans h)
    rename_i hN
    clear hN
    conv => whnf
    split
    rotate_left
    · rename_i h
      exact Bool.noConfusion ((qnt).symm.trans h)
    rename_i hN
    clear hN
    conv => whnf
    rw [Int.toNat_natCast]
    intro bb
    conv => whnf
    have hw0 : w64 ((n : Int) - 1) = (N : Int) := by rw [w64, wrap_in] <;> omega
    have hcl : ∀ k, clL [29] (flatR 1 n (stF w k)) = true := fun k => flat_cl0 (fun i _ => rfl)
    refine .mk (α := {p : Nat // p ≤ N}) (fun p => ⟨[(9, .int .i64 p.1), (8, .row 29 1 n n bb), (1, .int .i64 M)], [(29, flatR 1 n (stF w p.1))], up⟩) (fun p => p.1) ⟨N, Nat.le_refl _⟩ ⟨⟨leV_int hw0, leV_refl _, leV_refl _, trivial⟩, ⟨st_start w hN, trivial⟩, rfl, ?_⟩ ?_
    · simp [clT, clC, clL, clV, keys, hcl]
    rintro ⟨p, hp⟩
    rcases p with _ | k
    · conv => whnf
      refine .mk (α := {i : Nat // i ≤ n ∧ R = rampN w M (n - max i 1) (max i 1)}) (fun i => ⟨[(53, .int .i64 i.1), (52, .int .i64 n), (51, .row 29 1 n n bb), (1, .int .i64 M)], [(29, flatR 1 n (stF w 0))], up⟩) (fun i => n - i.1) ⟨0, Nat.zero_le _, hR⟩ ⟨⟨leV_refl _, leV_refl _, leV_refl _, leV_refl _, trivial⟩, ⟨leL_refl _, trivial⟩, rfl, ?_⟩ ?_
      · simp [clT, clC, clL, clV, keys, hcl]
      rintro ⟨i, hi, hr⟩
      have hiw : w64 ((i : Int) + 1) = ((i + 1 : Nat) : Int) := by rw [w64, wrap_in] <;> omega
      by_cases hin : i < n
      rotate_left
      · have q : decide ((i : Int) < n) = false := decide_eq_false (by omega)
        have hr2 : R = -1 := by rw [hr, show n - max i 1 = 0 by omega]; rfl
        conv => whnf
        split
        · rename_i h
          exact Bool.noConfusion ((q).symm.trans h)
        rename_i hN
        clear hN
        conv => whnf
        refine ⟨?_, rfl⟩
        rw [hr2]; rfl
      · have q : decide ((i : Int) < n) = true := decide_eq_true (by omega)
        rcases i with _ | k
        · have hc1 : nthI (flatR 1 n (stF w 0)) (((0 : Nat) : Int).toNat * 1) = some (.int .i64 (w 0)) := st_nth (by omega) (Nat.le_refl _)
          conv => whnf
          split
          rotate_left
          · rename_i h
            exact Bool.noConfusion ((q).symm.trans h)
          rename_i hN
          clear hN
          conv => whnf
          split
          rotate_left
          · rename_i h
            exact Bool.noConfusion ((q).symm.trans h)
          rename_i hN
          clear hN
          conv => whnf
          split
          rotate_left
          · rename_i h; exact absurd (hc1.symm.trans h) nofun
          rename_i c0 h
          obtain rfl := Option.some.inj (hc1.symm.trans h)
          clear h
          conv => whnf
          refine ⟨⟨1, by omega, hr⟩, ⟨⟨leV_int hiw, leV_refl _, leV_refl _, leV_refl _, trivial⟩, ⟨leL_refl _, trivial⟩, rfl, ?_⟩, (by show n - 1 < n - 0; omega)⟩
          simp [clT, clC, clL, clV, keys, hcl]
        · have qk : decide (((k + 1 : Nat) : Int) > 0) = true := decide_eq_true (by omega)
          have hc1 : nthI (flatR 1 n (stF w 0)) (((k + 1 : Nat) : Int).toNat * 1) = some (.int .i64 (w64 (w (k + 1) - w k))) := st_nth1 (i := k + 1) (p := 0) (by omega) (by omega)
          have hstep : R = bif steepB w M (k + 1) then ((k + 1 : Nat) : Int) else rampN w M (n - (k + 2)) (k + 2) := by
            rw [hr, show max (k + 1) 1 = k + 1 by omega, show n - (k + 1) = (n - (k + 2)) + 1 by omega]; rfl
          cases qs : steepB w M (k + 1) with
          | true =>
            have hr2 : R = ((k + 1 : Nat) : Int) := by rw [hstep, qs]; rfl
            have qs2 : decide (maxW (w64 (w (k + 1) - w k)) (w64 (0 - (w64 (w (k + 1) - w k)))) > M) = true := qs
            conv => whnf
            split
            rotate_left
            · rename_i h
              exact Bool.noConfusion ((q).symm.trans h)
            rename_i hN
            clear hN
            conv => whnf
            split
            rotate_left
            · rename_i h
              exact Bool.noConfusion ((q).symm.trans h)
            rename_i hN
            clear hN
            conv => whnf
            split
            rotate_left
            · rename_i h; exact absurd (hc1.symm.trans h) nofun
            rename_i c0 h
            obtain rfl := Option.some.inj (hc1.symm.trans h)
            clear h
            conv => whnf
            split
            rotate_left
            · rename_i h
              exact Bool.noConfusion ((qk).symm.trans h)
            rename_i hN
            clear hN
            conv => whnf
            split
            rotate_left
            · rename_i h
              exact Bool.noConfusion ((qs2).symm.trans h)
            rename_i hN
            clear hN
            conv => whnf
            exact ⟨congrArg (fun z => IV.tup [.int .i64 z, .int .i64 0]) hr2.symm, rfl⟩
          | false =>
            have hr2 : R = rampN w M (n - (k + 2)) (k + 2) := by rw [hstep, qs]; rfl
            have qs2 : decide (maxW (w64 (w (k + 1) - w k)) (w64 (0 - (w64 (w (k + 1) - w k)))) > M) = false := qs
            conv => whnf
            split
            rotate_left
            · rename_i h
              exact Bool.noConfusion ((q).symm.trans h)
            rename_i hN
            clear hN
            conv => whnf
            split
            rotate_left
            · rename_i h
              exact Bool.noConfusion ((q).symm.trans h)
            rename_i hN
            clear hN
            conv => whnf
            split
            rotate_left
            · rename_i h; exact absurd (hc1.symm.trans h) nofun
            rename_i c0 h
            obtain rfl := Option.some.inj (hc1.symm.trans h)
            clear h
            conv => whnf
            split
            rotate_left
            · rename_i h
              exact Bool.noConfusion ((qk).symm.trans h)
            rename_i hN
            clear hN
            conv => whnf
            split
            · rename_i h
              exact Bool.noConfusion ((qs2).symm.trans h)
            rename_i hN
            clear hN
            conv => whnf
            refine ⟨⟨k + 2, by omega, by rw [hr2, show max (k + 2) 1 = k + 2 by omega]⟩, ⟨⟨leV_int hiw, leV_refl _, leV_refl _, leV_refl _, trivial⟩, ⟨leL_refl _, trivial⟩, rfl, ?_⟩, Nat.sub_lt_sub_left hin (Nat.lt_succ_self _)⟩
            simp [clT, clC, clL, clV, keys, hcl]
    · have q : decide (((k + 1 : Nat) : Int) > 0) = true := decide_eq_true (by omega)
      have qn : decide (((k + 1 : Nat) : Int) < n) = true := decide_eq_true (by omega)
      have hw1 : w64 (((k + 1 : Nat) : Int) - 1) = (k : Int) := by rw [w64, wrap_in] <;> omega
      have qa : decide (0 ≤ w64 (((k + 1 : Nat) : Int) - 1)) = true := by rw [hw1]; exact decide_eq_true (by omega)
      have qb : decide (w64 (((k + 1 : Nat) : Int) - 1) < n) = true := by rw [hw1]; exact decide_eq_true (by omega)
      have hc1 : nthI (flatR 1 n (stF w (k + 1))) (((k + 1 : Nat) : Int).toNat * 1) = some (.int .i64 (w (k + 1))) := st_nth (by omega) (Nat.le_refl _)
      have hc2 : nthI (flatR 1 n (stF w (k + 1))) ((w64 (((k + 1 : Nat) : Int) - 1)).toNat * 1) = some (.int .i64 (w k)) := by rw [hw1]; exact st_nth (by omega) (by omega)
      have hla : lay (flatR 1 n (stF w (k + 1))) (((k + 1 : Nat) : Int).toNat * 1) [.int .i64 (w64 (w (k + 1) - w k))] = some (flatR 1 n (stF w k)) := st_lay (by omega)
      conv => whnf
      split
      rotate_left
      · rename_i h
        exact Bool.noConfusion ((q).symm.trans h)
      rename_i hN
      clear hN
      conv => whnf
      refine DRAW.seek ?_
      repeat (first | refine TRYD.take ?_ | refine TRYD.next ?_)
      conv => whnf
      split
      rotate_left
      · rename_i h
        exact Bool.noConfusion ((qn).symm.trans h)
      rename_i hN
      clear hN
      conv => whnf
      split
      rotate_left
      · rename_i h; exact absurd (hc1.symm.trans h) nofun
      rename_i c0 h
      obtain rfl := Option.some.inj (hc1.symm.trans h)
      clear h
      conv => whnf
      split
      rotate_left
      · rename_i h
        exact Bool.noConfusion ((qa).symm.trans h)
      rename_i hN
      clear hN
      conv => whnf
      split
      rotate_left
      · rename_i h
        exact Bool.noConfusion ((qb).symm.trans h)
      rename_i hN
      clear hN
      conv => whnf
      split
      rotate_left
      · rename_i h; exact absurd (hc2.symm.trans h) nofun
      rename_i c0 h
      obtain rfl := Option.some.inj (hc2.symm.trans h)
      clear h
      conv => whnf
      split
      rotate_left
      · rename_i h
        exact Bool.noConfusion ((qn).symm.trans h)
      rename_i hN
      clear hN
      conv => whnf
      split
      rotate_left
      · rename_i h; exact absurd (hla.symm.trans h) nofun
      rename_i c0 h
      obtain rfl := Option.some.inj (hla.symm.trans h)
      clear h
      conv => whnf
      refine ⟨⟨k, by omega⟩, ⟨⟨leV_int hw1, leV_refl _, leV_refl _, trivial⟩, ⟨leL_refl _, trivial⟩, rfl, ?_⟩, (by show k < k + 1; omega)⟩
      simp [clT, clC, clL, clV, keys, hcl]
end Go.Proofs.YtkdlegfakefjgaaGreatDoor.Ix

/-
  Cr5: contracts of the reference's functions for acts: what is behind them, the rules, Next, Propose.
-/
namespace Go.Proofs.YtkdlegfakefjgaaGreatDoor.Ix
open Go.Proofs
set_option maxRecDepth 100000
set_option linter.unusedVariables false
set_option linter.unusedSimpArgs false
variable {gl : Nat → IV}

set_option maxHeartbeats 8000000 in
theorem c_rafter (up : List Ces) (m : Mc) (s : Sta) (a : Ac) (hm : m.ok) (hs : s.rng m) (ha : a.ok m) : Cs gl n_nacelleref05_after up [m.iv, s.iv, a.iv] (s.behindW m a).iv up := by
  have hw := hm.wind
  have ht := hm.tor
  have a1 := ha.wind
  have a2 := ha.pitch
  have a3 := ha.tor
  refine mk h_nacelleref05_after rfl rfl ?_
  unfold Sta.behindW
  cases q1 : eqS a.kind sStart with
  | true =>
    conv => whnf
    split
    rotate_left
    · rename_i h
      exact Bool.noConfusion ((q1).symm.trans h)
    rename_i hN
    clear hN
    conv => whnf
    exact ⟨rfl, rfl⟩
  | false =>
  cases q2 : eqS a.kind sTick with
  | true =>
    have h := fun up => c_rstepped (gl := gl) up m s a.wind a.pitch a.tor a.stuck
    rw [stepR_eq hm hs (by omega) a2 (by omega)] at h
    conv => whnf
    split
    · rename_i h
      exact Bool.noConfusion ((q1).symm.trans h)
    rename_i hN
    clear hN
    conv => whnf
    split
    rotate_left
    · rename_i h
      exact Bool.noConfusion ((q2).symm.trans h)
    rename_i hN
    clear hN
    conv => whnf
    repeat first
      | (refine DRAW.seek ?_; repeat (first | refine TRYD.take ?_ | refine TRYD.next ?_); conv => whnf)
      | (refine HOLD.mk (by first | exact trivial | exact ⟨⟨rfl, rfl⟩, trivial⟩ | exact ⟨⟨rfl, rfl⟩, ⟨rfl, rfl⟩, trivial⟩) ?_; (conv => whnf))
      | (refine CALL0.by (h ..) rfl ?_; conv => whnf)
      | (refine CALLQ.mk _ _ _ (leL_refl _) (h ..) rfl ?_; conv => whnf)
    exact ⟨rfl, rfl⟩
  | false =>
  cases q3 : eqS a.kind sStop with
  | true =>
    conv => whnf
    split
    · rename_i h
      exact Bool.noConfusion ((q1).symm.trans h)
    rename_i hN
    clear hN
    conv => whnf
    split
    · rename_i h
      exact Bool.noConfusion ((q2).symm.trans h)
    rename_i hN
    clear hN
    conv => whnf
    split
    rotate_left
    · rename_i h
      exact Bool.noConfusion ((q3).symm.trans h)
    rename_i hN
    clear hN
    conv => whnf
    exact ⟨rfl, rfl⟩
  | false =>
  cases q4 : eqS a.kind sBrake with
  | true =>
    have h := fun up => c_rBraked (gl := gl) up m s a.wind a.stuck hm hs (by omega)
    conv => whnf
    split
    · rename_i h
      exact Bool.noConfusion ((q1).symm.trans h)
    rename_i hN
    clear hN
    conv => whnf
    split
    · rename_i h
      exact Bool.noConfusion ((q2).symm.trans h)
    rename_i hN
    clear hN
    conv => whnf
    split
    · rename_i h
      exact Bool.noConfusion ((q3).symm.trans h)
    rename_i hN
    clear hN
    conv => whnf
    split
    rotate_left
    · rename_i h
      exact Bool.noConfusion ((q4).symm.trans h)
    rename_i hN
    clear hN
    conv => whnf
    repeat first
      | (refine DRAW.seek ?_; repeat (first | refine TRYD.take ?_ | refine TRYD.next ?_); conv => whnf)
      | (refine HOLD.mk (by first | exact trivial | exact ⟨⟨rfl, rfl⟩, trivial⟩ | exact ⟨⟨rfl, rfl⟩, ⟨rfl, rfl⟩, trivial⟩) ?_; (conv => whnf))
      | (refine CALL0.by (h ..) rfl ?_; conv => whnf)
      | (refine CALLQ.mk _ _ _ (leL_refl _) (h ..) rfl ?_; conv => whnf)
    exact ⟨rfl, rfl⟩
  | false =>
  cases q5 : eqS a.kind sRest with
  | true =>
    conv => whnf
    split
    · rename_i h
      exact Bool.noConfusion ((q1).symm.trans h)
    rename_i hN
    clear hN
    conv => whnf
    split
    · rename_i h
      exact Bool.noConfusion ((q2).symm.trans h)
    rename_i hN
    clear hN
    conv => whnf
    split
    · rename_i h
      exact Bool.noConfusion ((q3).symm.trans h)
    rename_i hN
    clear hN
    conv => whnf
    split
    · rename_i h
      exact Bool.noConfusion ((q4).symm.trans h)
    rename_i hN
    clear hN
    conv => whnf
    split
    rotate_left
    · rename_i h
      exact Bool.noConfusion ((q5).symm.trans h)
    rename_i hN
    clear hN
    conv => whnf
    exact ⟨rfl, rfl⟩
  | false =>
  cases q6 : eqS a.kind sRepair with
  | true =>
    conv => whnf
    split
    · rename_i h
      exact Bool.noConfusion ((q1).symm.trans h)
    rename_i hN
    clear hN
    conv => whnf
    split
    · rename_i h
      exact Bool.noConfusion ((q2).symm.trans h)
    rename_i hN
    clear hN
    conv => whnf
    split
    · rename_i h
      exact Bool.noConfusion ((q3).symm.trans h)
    rename_i hN
    clear hN
    conv => whnf
    split
    · rename_i h
      exact Bool.noConfusion ((q4).symm.trans h)
    rename_i hN
    clear hN
    conv => whnf
    split
    · rename_i h
      exact Bool.noConfusion ((q5).symm.trans h)
    rename_i hN
    clear hN
    conv => whnf
    split
    rotate_left
    · rename_i h
      exact Bool.noConfusion ((q6).symm.trans h)
    rename_i hN
    clear hN
    conv => whnf
    exact ⟨rfl, rfl⟩
  | false =>
    conv => whnf
    split
    · rename_i h
      exact Bool.noConfusion ((q1).symm.trans h)
    rename_i hN
    clear hN
    conv => whnf
    split
    · rename_i h
      exact Bool.noConfusion ((q2).symm.trans h)
    rename_i hN
    clear hN
    conv => whnf
    split
    · rename_i h
      exact Bool.noConfusion ((q3).symm.trans h)
    rename_i hN
    clear hN
    conv => whnf
    split
    · rename_i h
      exact Bool.noConfusion ((q4).symm.trans h)
    rename_i hN
    clear hN
    conv => whnf
    split
    · rename_i h
      exact Bool.noConfusion ((q5).symm.trans h)
    rename_i hN
    clear hN
    conv => whnf
    split
    · rename_i h
      exact Bool.noConfusion ((q6).symm.trans h)
    rename_i hN
    clear hN
    conv => whnf
    exact ⟨rfl, rfl⟩

theorem in_two (x k l : ByteArray) (h : eqS x l = false) : inK x k l = eqS x k := by rw [inK_eq, h, Bool.or_false]

theorem rule4_eq (s : Sta) (m : Mc) : s.rule4 m = (decide (atA m.fea [s.p0, s.p1, s.p2] < 3) || s.stuck != -1) := by
  unfold Sta.rule4
  congr 1
  simp only [atA]
  by_cases h0 : s.p0 = m.fea <;> by_cases h1 : s.p1 = m.fea <;> by_cases h2 : s.p2 = m.fea <;> simp [h0, h1, h2]

/-- The rules, told by the kinds' tests. -/
noncomputable abbrev Sta.ruleN (s : Sta) (m : Mc) (a : Ac) : Nat → Bool := s.ruleB m a fun k => (s.behindW m a).num m k

set_option maxHeartbeats 8000000 in
theorem c_rF1 (up : List Ces) (m : Mc) (s : Sta) (a : Ac) (hk : eqS a.kind ByteArray.empty = false) : Cs gl n_nacelleref05_Forbids up [m.iv, s.iv, a.iv, .int .i64 1] (.bool (s.ruleN m a 0)) up := by
  have e : s.ruleN m a 0 = ((eqS a.kind sStart || eqS a.kind sRepair) && (!eqS s.mode sIdle)) := by
    show (inK a.kind sStart sRepair && _) = _
    rw [inK_eq]
  rw [e]
  refine mk h_nacelleref05_Forbids rfl rfl ?_
  cases q1 : eqS a.kind sTick with
  | true =>
    have n1 : eqS a.kind sStart = false := kinds_ne q1 (by decide)
    have n2 : eqS a.kind sRepair = false := kinds_ne q1 (by decide)
    rw [n1, n2]
    conv => whnf
    split
    rotate_left
    · rename_i h
      exact Bool.noConfusion ((q1).symm.trans h)
    rename_i hN
    clear hN
    conv => whnf
    split
    · rename_i h
      exact Bool.noConfusion ((n1).symm.trans h)
    rename_i hN
    clear hN
    conv => whnf
    split
    · rename_i h
      exact Bool.noConfusion ((n2).symm.trans h)
    rename_i hN
    clear hN
    conv => whnf
    exact ⟨rfl, rfl⟩
  | false =>
  cases qb : eqS a.kind sBrake with
  | true =>
    have n1 : eqS a.kind sStart = false := kinds_ne qb (by decide)
    have n2 : eqS a.kind sRepair = false := kinds_ne qb (by decide)
    rw [n1, n2]
    conv => whnf
    split
    · rename_i h
      exact Bool.noConfusion ((q1).symm.trans h)
    rename_i hN
    clear hN
    conv => whnf
    split
    · rename_i h
      exact Bool.noConfusion ((n1).symm.trans h)
    rename_i hN
    clear hN
    conv => whnf
    split
    · rename_i h
      exact Bool.noConfusion ((n2).symm.trans h)
    rename_i hN
    clear hN
    conv => whnf
    exact ⟨rfl, rfl⟩
  | false =>
    cases n1 : eqS a.kind sStart with
    | true =>
      conv => whnf
      split
      · rename_i h
        exact Bool.noConfusion ((q1).symm.trans h)
      rename_i hN
      clear hN
      conv => whnf
      split
      rotate_left
      · rename_i h
        exact Bool.noConfusion ((n1).symm.trans h)
      rename_i hN
      clear hN
      conv => whnf
      exact ⟨rfl, rfl⟩
    | false =>
    cases n2 : eqS a.kind sRepair with
    | true =>
      conv => whnf
      split
      · rename_i h
        exact Bool.noConfusion ((q1).symm.trans h)
      rename_i hN
      clear hN
      conv => whnf
      split
      · rename_i h
        exact Bool.noConfusion ((n1).symm.trans h)
      rename_i hN
      clear hN
      conv => whnf
      split
      rotate_left
      · rename_i h
        exact Bool.noConfusion ((n2).symm.trans h)
      rename_i hN
      clear hN
      conv => whnf
      exact ⟨rfl, rfl⟩
    | false =>
      conv => whnf
      split
      · rename_i h
        exact Bool.noConfusion ((q1).symm.trans h)
      rename_i hN
      clear hN
      conv => whnf
      split
      · rename_i h
        exact Bool.noConfusion ((n1).symm.trans h)
      rename_i hN
      clear hN
      conv => whnf
      split
      · rename_i h
        exact Bool.noConfusion ((n2).symm.trans h)
      rename_i hN
      clear hN
      conv => whnf
      exact ⟨rfl, rfl⟩

set_option maxHeartbeats 8000000 in
theorem c_rF2 (up : List Ces) (m : Mc) (s : Sta) (a : Ac) (hk : eqS a.kind ByteArray.empty = false) : Cs gl n_nacelleref05_Forbids up [m.iv, s.iv, a.iv, .int .i64 2] (.bool (s.ruleN m a 1)) up := by
  have e : s.ruleN m a 1 = ((eqS a.kind sTick || eqS a.kind sStop) && (!eqS s.mode sRun)) := by
    show (inK a.kind sTick sStop && _) = _
    rw [inK_eq]
  rw [e]
  refine mk h_nacelleref05_Forbids rfl rfl ?_
  cases q1 : eqS a.kind sTick with
  | true =>
    conv => whnf
    split
    rotate_left
    · rename_i h
      exact Bool.noConfusion ((q1).symm.trans h)
    rename_i hN
    clear hN
    conv => whnf
    split
    rotate_left
    · rename_i h
      exact Bool.noConfusion ((q1).symm.trans h)
    rename_i hN
    clear hN
    conv => whnf
    exact ⟨rfl, rfl⟩
  | false =>
  cases qb : eqS a.kind sBrake with
  | true =>
    have n2 : eqS a.kind sStop = false := kinds_ne qb (by decide)
    rw [n2]
    conv => whnf
    split
    · rename_i h
      exact Bool.noConfusion ((q1).symm.trans h)
    rename_i hN
    clear hN
    conv => whnf
    split
    · rename_i h
      exact Bool.noConfusion ((q1).symm.trans h)
    rename_i hN
    clear hN
    conv => whnf
    split
    · rename_i h
      exact Bool.noConfusion ((n2).symm.trans h)
    rename_i hN
    clear hN
    conv => whnf
    exact ⟨rfl, rfl⟩
  | false =>
    cases n2 : eqS a.kind sStop with
    | true =>
      conv => whnf
      split
      · rename_i h
        exact Bool.noConfusion ((q1).symm.trans h)
      rename_i hN
      clear hN
      conv => whnf
      split
      · rename_i h
        exact Bool.noConfusion ((q1).symm.trans h)
      rename_i hN
      clear hN
      conv => whnf
      split
      rotate_left
      · rename_i h
        exact Bool.noConfusion ((n2).symm.trans h)
      rename_i hN
      clear hN
      conv => whnf
      exact ⟨rfl, rfl⟩
    | false =>
      conv => whnf
      split
      · rename_i h
        exact Bool.noConfusion ((q1).symm.trans h)
      rename_i hN
      clear hN
      conv => whnf
      split
      · rename_i h
        exact Bool.noConfusion ((q1).symm.trans h)
      rename_i hN
      clear hN
      conv => whnf
      split
      · rename_i h
        exact Bool.noConfusion ((n2).symm.trans h)
      rename_i hN
      clear hN
      conv => whnf
      exact ⟨rfl, rfl⟩

set_option maxHeartbeats 8000000 in
theorem c_rF3 (up : List Ces) (m : Mc) (s : Sta) (a : Ac) (hk : eqS a.kind ByteArray.empty = false) : Cs gl n_nacelleref05_Forbids up [m.iv, s.iv, a.iv, .int .i64 3] (.bool (s.ruleN m a 2)) up := by
  have e : s.ruleN m a 2 = ((eqS a.kind sBrake || eqS a.kind sRest) && (!eqS s.mode sStop)) := by
    show (inK a.kind sBrake sRest && _) = _
    rw [inK_eq]
  rw [e]
  refine mk h_nacelleref05_Forbids rfl rfl ?_
  cases q1 : eqS a.kind sTick with
  | true =>
    have n1 : eqS a.kind sBrake = false := kinds_ne q1 (by decide)
    have n2 : eqS a.kind sRest = false := kinds_ne q1 (by decide)
    rw [n1, n2]
    conv => whnf
    split
    rotate_left
    · rename_i h
      exact Bool.noConfusion ((q1).symm.trans h)
    rename_i hN
    clear hN
    conv => whnf
    split
    · rename_i h
      exact Bool.noConfusion ((n1).symm.trans h)
    rename_i hN
    clear hN
    conv => whnf
    split
    · rename_i h
      exact Bool.noConfusion ((n2).symm.trans h)
    rename_i hN
    clear hN
    conv => whnf
    exact ⟨rfl, rfl⟩
  | false =>
  cases qb : eqS a.kind sBrake with
  | true =>
    conv => whnf
    split
    · rename_i h
      exact Bool.noConfusion ((q1).symm.trans h)
    rename_i hN
    clear hN
    conv => whnf
    split
    rotate_left
    · rename_i h
      exact Bool.noConfusion ((qb).symm.trans h)
    rename_i hN
    clear hN
    conv => whnf
    exact ⟨rfl, rfl⟩
  | false =>
    cases n2 : eqS a.kind sRest with
    | true =>
      conv => whnf
      split
      · rename_i h
        exact Bool.noConfusion ((q1).symm.trans h)
      rename_i hN
      clear hN
      conv => whnf
      split
      · rename_i h
        exact Bool.noConfusion ((qb).symm.trans h)
      rename_i hN
      clear hN
      conv => whnf
      split
      rotate_left
      · rename_i h
        exact Bool.noConfusion ((n2).symm.trans h)
      rename_i hN
      clear hN
      conv => whnf
      exact ⟨rfl, rfl⟩
    | false =>
      conv => whnf
      split
      · rename_i h
        exact Bool.noConfusion ((q1).symm.trans h)
      rename_i hN
      clear hN
      conv => whnf
      split
      · rename_i h
        exact Bool.noConfusion ((qb).symm.trans h)
      rename_i hN
      clear hN
      conv => whnf
      split
      · rename_i h
        exact Bool.noConfusion ((n2).symm.trans h)
      rename_i hN
      clear hN
      conv => whnf
      exact ⟨rfl, rfl⟩

set_option maxHeartbeats 8000000 in
theorem c_rF4 (up : List Ces) (m : Mc) (s : Sta) (a : Ac) (hk : eqS a.kind ByteArray.empty = false) : Cs gl n_nacelleref05_Forbids up [m.iv, s.iv, a.iv, .int .i64 4] (.bool (s.ruleN m a 3)) up := by
  have e : s.ruleN m a 3 = (eqS a.kind sStart && s.rule4 m) := by
    show (inK a.kind sStart ByteArray.empty && _) = _
    rw [in_two _ _ _ hk]
  rw [e]
  refine mk h_nacelleref05_Forbids rfl rfl ?_
  cases q1 : eqS a.kind sTick with
  | true =>
    have n1 : eqS a.kind sStart = false := kinds_ne q1 (by decide)
    rw [n1]
    conv => whnf
    split
    rotate_left
    · rename_i h
      exact Bool.noConfusion ((q1).symm.trans h)
    rename_i hN
    clear hN
    conv => whnf
    split
    · rename_i h
      exact Bool.noConfusion ((n1).symm.trans h)
    rename_i hN
    clear hN
    conv => whnf
    exact ⟨rfl, rfl⟩
  | false =>
  cases qb : eqS a.kind sBrake with
  | true =>
    have n1 : eqS a.kind sStart = false := kinds_ne qb (by decide)
    rw [n1]
    conv => whnf
    split
    · rename_i h
      exact Bool.noConfusion ((q1).symm.trans h)
    rename_i hN
    clear hN
    conv => whnf
    split
    · rename_i h
      exact Bool.noConfusion ((n1).symm.trans h)
    rename_i hN
    clear hN
    conv => whnf
    exact ⟨rfl, rfl⟩
  | false =>
    cases n1 : eqS a.kind sStart with
    | true =>
      rw [rule4_eq]
      cases qf : decide (atA m.fea [s.p0, s.p1, s.p2] < 3) with
      | true =>
        conv => whnf
        split
        · rename_i h
          exact Bool.noConfusion ((q1).symm.trans h)
        rename_i hN
        clear hN
        conv => whnf
        split
        rotate_left
        · rename_i h
          exact Bool.noConfusion ((n1).symm.trans h)
        rename_i hN
        clear hN
        conv => whnf
        repeat first
          | (refine DRAW.seek ?_; repeat (first | refine TRYD.take ?_ | refine TRYD.next ?_); conv => whnf)
          | (refine HOLD.mk (by first | exact trivial | exact ⟨⟨rfl, rfl⟩, trivial⟩ | exact ⟨⟨rfl, rfl⟩, ⟨rfl, rfl⟩, trivial⟩) ?_; (conv => whnf))
          | (refine CALL0.by (c_rfeathered ..) rfl ?_; conv => whnf)
          | (refine CALLQ.mk _ _ _ (leL_refl _) (c_rfeathered ..) rfl ?_; conv => whnf)
        split
        rotate_left
        · rename_i h
          exact Bool.noConfusion ((qf).symm.trans h)
        rename_i hN
        clear hN
        conv => whnf
        exact ⟨rfl, rfl⟩
      | false =>
        conv => whnf
        split
        · rename_i h
          exact Bool.noConfusion ((q1).symm.trans h)
        rename_i hN
        clear hN
        conv => whnf
        split
        rotate_left
        · rename_i h
          exact Bool.noConfusion ((n1).symm.trans h)
        rename_i hN
        clear hN
        conv => whnf
        repeat first
          | (refine DRAW.seek ?_; repeat (first | refine TRYD.take ?_ | refine TRYD.next ?_); conv => whnf)
          | (refine HOLD.mk (by first | exact trivial | exact ⟨⟨rfl, rfl⟩, trivial⟩ | exact ⟨⟨rfl, rfl⟩, ⟨rfl, rfl⟩, trivial⟩) ?_; (conv => whnf))
          | (refine CALL0.by (c_rfeathered ..) rfl ?_; conv => whnf)
          | (refine CALLQ.mk _ _ _ (leL_refl _) (c_rfeathered ..) rfl ?_; conv => whnf)
        split
        · rename_i h
          exact Bool.noConfusion ((qf).symm.trans h)
        rename_i hN
        clear hN
        conv => whnf
        exact ⟨rfl, rfl⟩
    | false =>
      conv => whnf
      split
      · rename_i h
        exact Bool.noConfusion ((q1).symm.trans h)
      rename_i hN
      clear hN
      conv => whnf
      split
      · rename_i h
        exact Bool.noConfusion ((n1).symm.trans h)
      rename_i hN
      clear hN
      conv => whnf
      exact ⟨rfl, rfl⟩

set_option maxHeartbeats 8000000 in
theorem c_rF5 (up : List Ces) (m : Mc) (s : Sta) (a : Ac) (hk : eqS a.kind ByteArray.empty = false) : Cs gl n_nacelleref05_Forbids up [m.iv, s.iv, a.iv, .int .i64 5] (.bool (s.ruleN m a 4)) up := by
  have e : s.ruleN m a 4 = (eqS a.kind sRest && s.rule5 m) := by
    show (inK a.kind sRest ByteArray.empty && _) = _
    rw [in_two _ _ _ hk]
  rw [e]
  refine mk h_nacelleref05_Forbids rfl rfl ?_
  cases q1 : eqS a.kind sTick with
  | true =>
    have n1 : eqS a.kind sRest = false := kinds_ne q1 (by decide)
    rw [n1]
    conv => whnf
    split
    rotate_left
    · rename_i h
      exact Bool.noConfusion ((q1).symm.trans h)
    rename_i hN
    clear hN
    conv => whnf
    split
    · rename_i h
      exact Bool.noConfusion ((n1).symm.trans h)
    rename_i hN
    clear hN
    conv => whnf
    exact ⟨rfl, rfl⟩
  | false =>
  cases qb : eqS a.kind sBrake with
  | true =>
    have n1 : eqS a.kind sRest = false := kinds_ne qb (by decide)
    rw [n1]
    conv => whnf
    split
    · rename_i h
      exact Bool.noConfusion ((q1).symm.trans h)
    rename_i hN
    clear hN
    conv => whnf
    split
    · rename_i h
      exact Bool.noConfusion ((n1).symm.trans h)
    rename_i hN
    clear hN
    conv => whnf
    exact ⟨rfl, rfl⟩
  | false =>
    cases n1 : eqS a.kind sRest with
    | true =>
      unfold Sta.rule5
      cases qf : (s.speed != 0) with
      | true =>
        conv => whnf
        split
        · rename_i h
          exact Bool.noConfusion ((q1).symm.trans h)
        rename_i hN
        clear hN
        conv => whnf
        split
        rotate_left
        · rename_i h
          exact Bool.noConfusion ((n1).symm.trans h)
        rename_i hN
        clear hN
        conv => whnf
        split
        rotate_left
        · rename_i h
          exact Bool.noConfusion ((qf).symm.trans h)
        rename_i hN
        clear hN
        conv => whnf
        exact ⟨rfl, rfl⟩
      | false =>
        conv => whnf
        split
        · rename_i h
          exact Bool.noConfusion ((q1).symm.trans h)
        rename_i hN
        clear hN
        conv => whnf
        split
        rotate_left
        · rename_i h
          exact Bool.noConfusion ((n1).symm.trans h)
        rename_i hN
        clear hN
        conv => whnf
        split
        · rename_i h
          exact Bool.noConfusion ((qf).symm.trans h)
        rename_i hN
        clear hN
        conv => whnf
        repeat first
          | (refine DRAW.seek ?_; repeat (first | refine TRYD.take ?_ | refine TRYD.next ?_); conv => whnf)
          | (refine HOLD.mk (by first | exact trivial | exact ⟨⟨rfl, rfl⟩, trivial⟩ | exact ⟨⟨rfl, rfl⟩, ⟨rfl, rfl⟩, trivial⟩) ?_; (conv => whnf))
          | (refine CALL0.by (c_rfeathered ..) rfl ?_; conv => whnf)
          | (refine CALLQ.mk _ _ _ (leL_refl _) (c_rfeathered ..) rfl ?_; conv => whnf)
        exact ⟨rfl, rfl⟩
    | false =>
      conv => whnf
      split
      · rename_i h
        exact Bool.noConfusion ((q1).symm.trans h)
      rename_i hN
      clear hN
      conv => whnf
      split
      · rename_i h
        exact Bool.noConfusion ((n1).symm.trans h)
      rename_i hN
      clear hN
      conv => whnf
      exact ⟨rfl, rfl⟩

set_option maxHeartbeats 8000000 in
theorem c_rF6 (up : List Ces) (m : Mc) (s : Sta) (a : Ac) (hk : eqS a.kind ByteArray.empty = false) : Cs gl n_nacelleref05_Forbids up [m.iv, s.iv, a.iv, .int .i64 6] (.bool (s.ruleN m a 5)) up := by
  have e : s.ruleN m a 5 = ((eqS a.kind sTick || eqS a.kind sBrake) && s.rule6 a) := by
    show (inK a.kind sTick sBrake && _) = _
    rw [inK_eq]
  rw [e]
  refine mk h_nacelleref05_Forbids rfl rfl ?_
  cases q1 : eqS a.kind sTick with
  | true =>
    unfold Sta.rule6
    cases qa : (a.stuck != -1) with
    | false =>
      conv => whnf
      split
      rotate_left
      · rename_i h
        exact Bool.noConfusion ((q1).symm.trans h)
      rename_i hN
      clear hN
      conv => whnf
      split
      · rename_i h
        exact Bool.noConfusion ((qa).symm.trans h)
      rename_i hN
      clear hN
      conv => whnf
      exact ⟨rfl, rfl⟩
    | true =>
    cases qs : (s.stuck != -1) with
    | false =>
      conv => whnf
      split
      rotate_left
      · rename_i h
        exact Bool.noConfusion ((q1).symm.trans h)
      rename_i hN
      clear hN
      conv => whnf
      split
      rotate_left
      · rename_i h
        exact Bool.noConfusion ((qa).symm.trans h)
      rename_i hN
      clear hN
      conv => whnf
      split
      · rename_i h
        exact Bool.noConfusion ((qs).symm.trans h)
      rename_i hN
      clear hN
      conv => whnf
      exact ⟨rfl, rfl⟩
    | true =>
      conv => whnf
      split
      rotate_left
      · rename_i h
        exact Bool.noConfusion ((q1).symm.trans h)
      rename_i hN
      clear hN
      conv => whnf
      split
      rotate_left
      · rename_i h
        exact Bool.noConfusion ((qa).symm.trans h)
      rename_i hN
      clear hN
      conv => whnf
      split
      rotate_left
      · rename_i h
        exact Bool.noConfusion ((qs).symm.trans h)
      rename_i hN
      clear hN
      conv => whnf
      exact ⟨rfl, rfl⟩
  | false =>
  cases qb : eqS a.kind sBrake with
  | true =>
    unfold Sta.rule6
    cases qa : (a.stuck != -1) with
    | false =>
      conv => whnf
      split
      · rename_i h
        exact Bool.noConfusion ((q1).symm.trans h)
      rename_i hN
      clear hN
      conv => whnf
      split
      rotate_left
      · rename_i h
        exact Bool.noConfusion ((qb).symm.trans h)
      rename_i hN
      clear hN
      conv => whnf
      split
      · rename_i h
        exact Bool.noConfusion ((qa).symm.trans h)
      rename_i hN
      clear hN
      conv => whnf
      exact ⟨rfl, rfl⟩
    | true =>
    cases qs : (s.stuck != -1) with
    | false =>
      conv => whnf
      split
      · rename_i h
        exact Bool.noConfusion ((q1).symm.trans h)
      rename_i hN
      clear hN
      conv => whnf
      split
      rotate_left
      · rename_i h
        exact Bool.noConfusion ((qb).symm.trans h)
      rename_i hN
      clear hN
      conv => whnf
      split
      rotate_left
      · rename_i h
        exact Bool.noConfusion ((qa).symm.trans h)
      rename_i hN
      clear hN
      conv => whnf
      split
      · rename_i h
        exact Bool.noConfusion ((qs).symm.trans h)
      rename_i hN
      clear hN
      conv => whnf
      exact ⟨rfl, rfl⟩
    | true =>
      conv => whnf
      split
      · rename_i h
        exact Bool.noConfusion ((q1).symm.trans h)
      rename_i hN
      clear hN
      conv => whnf
      split
      rotate_left
      · rename_i h
        exact Bool.noConfusion ((qb).symm.trans h)
      rename_i hN
      clear hN
      conv => whnf
      split
      rotate_left
      · rename_i h
        exact Bool.noConfusion ((qa).symm.trans h)
      rename_i hN
      clear hN
      conv => whnf
      split
      rotate_left
      · rename_i h
        exact Bool.noConfusion ((qs).symm.trans h)
      rename_i hN
      clear hN
      conv => whnf
      exact ⟨rfl, rfl⟩
  | false =>
    conv => whnf
    split
    · rename_i h
      exact Bool.noConfusion ((q1).symm.trans h)
    rename_i hN
    clear hN
    conv => whnf
    split
    · rename_i h
      exact Bool.noConfusion ((qb).symm.trans h)
    rename_i hN
    clear hN
    conv => whnf
    exact ⟨rfl, rfl⟩

set_option maxHeartbeats 8000000 in
theorem c_rF7 (up : List Ces) (m : Mc) (s : Sta) (a : Ac) (hk : eqS a.kind ByteArray.empty = false) (hm : m.ok) (hs : s.rng m) (ha : a.ok m) : Cs gl n_nacelleref05_Forbids up [m.iv, s.iv, a.iv, .int .i64 7] (.bool (s.ruleN m a 6)) up := by
  have e : s.ruleN m a 6 = ((eqS a.kind sTick || eqS a.kind sBrake) && s.rule7 m a fun k => (s.behindW m a).num m k) := by
    show (inK a.kind sTick sBrake && _) = _
    rw [inK_eq]
  rw [e]
  refine mk h_nacelleref05_Forbids rfl rfl ?_
  cases q1 : eqS a.kind sTick with
  | true =>
    unfold Sta.rule7
    rw [q1]
    have ha7 := fun up => c_rafter (gl := gl) up m s a hm hs ha
    cases qf : decide ((s.behindW m a).speed > m.lim) with
    | true =>
      conv => whnf
      split
      rotate_left
      · rename_i h
        exact Bool.noConfusion ((q1).symm.trans h)
      rename_i hN
      clear hN
      conv => whnf
      repeat first
        | (refine DRAW.seek ?_; repeat (first | refine TRYD.take ?_ | refine TRYD.next ?_); conv => whnf)
        | (refine HOLD.mk (by first | exact trivial | exact ⟨⟨rfl, rfl⟩, trivial⟩ | exact ⟨⟨rfl, rfl⟩, ⟨rfl, rfl⟩, trivial⟩) ?_; (conv => whnf))
        | (refine CALL0.by (ha7 ..) rfl ?_; conv => whnf)
        | (refine CALLQ.mk _ _ _ (leL_refl _) (ha7 ..) rfl ?_; conv => whnf)
      split
      rotate_left
      · rename_i h
        exact Bool.noConfusion ((qf).symm.trans h)
      rename_i hN
      clear hN
      conv => whnf
      exact ⟨rfl, rfl⟩
    | false =>
      have hsp : (s.behindW m a).speed ≤ m.lim := by have := of_decide_eq_false qf; omega
      have hlim := hm.lim
      have hS := fun up => c_rSafe (gl := gl) up m (s.behindW m a) hm (tick_rng hm hs ha q1 hsp) (by omega)
      conv => whnf
      split
      rotate_left
      · rename_i h
        exact Bool.noConfusion ((q1).symm.trans h)
      rename_i hN
      clear hN
      conv => whnf
      repeat first
        | (refine DRAW.seek ?_; repeat (first | refine TRYD.take ?_ | refine TRYD.next ?_); conv => whnf)
        | (refine HOLD.mk (by first | exact trivial | exact ⟨⟨rfl, rfl⟩, trivial⟩ | exact ⟨⟨rfl, rfl⟩, ⟨rfl, rfl⟩, trivial⟩) ?_; (conv => whnf))
        | (refine CALL0.by (ha7 ..) rfl ?_; conv => whnf)
        | (refine CALLQ.mk _ _ _ (leL_refl _) (ha7 ..) rfl ?_; conv => whnf)
      split
      · rename_i h
        exact Bool.noConfusion ((qf).symm.trans h)
      rename_i hN
      clear hN
      conv => whnf
      split
      rotate_left
      · rename_i h
        exact Bool.noConfusion ((q1).symm.trans h)
      rename_i hN
      clear hN
      conv => whnf
      repeat first
        | (refine DRAW.seek ?_; repeat (first | refine TRYD.take ?_ | refine TRYD.next ?_); conv => whnf)
        | (refine HOLD.mk (by first | exact trivial | exact ⟨⟨rfl, rfl⟩, trivial⟩ | exact ⟨⟨rfl, rfl⟩, ⟨rfl, rfl⟩, trivial⟩) ?_; (conv => whnf))
        | (refine CALL0.by (hS ..) rfl ?_; conv => whnf)
        | (refine CALLQ.mk _ _ _ (leL_refl _) (hS ..) rfl ?_; conv => whnf)
      exact ⟨rfl, rfl⟩
  | false =>
  cases qb : eqS a.kind sBrake with
  | true =>
    unfold Sta.rule7
    rw [q1]
    have ha7 := fun up => c_rafter (gl := gl) up m s a hm hs ha
    cases qf : decide ((s.behindW m a).speed > m.lim) with
    | true =>
      conv => whnf
      split
      · rename_i h
        exact Bool.noConfusion ((q1).symm.trans h)
      rename_i hN
      clear hN
      conv => whnf
      repeat first
        | (refine DRAW.seek ?_; repeat (first | refine TRYD.take ?_ | refine TRYD.next ?_); conv => whnf)
        | (refine HOLD.mk (by first | exact trivial | exact ⟨⟨rfl, rfl⟩, trivial⟩ | exact ⟨⟨rfl, rfl⟩, ⟨rfl, rfl⟩, trivial⟩) ?_; (conv => whnf))
        | (refine CALL0.by (ha7 ..) rfl ?_; conv => whnf)
        | (refine CALLQ.mk _ _ _ (leL_refl _) (ha7 ..) rfl ?_; conv => whnf)
      split
      rotate_left
      · rename_i h
        exact Bool.noConfusion ((qb).symm.trans h)
      rename_i hN
      clear hN
      conv => whnf
      split
      rotate_left
      · rename_i h
        exact Bool.noConfusion ((qf).symm.trans h)
      rename_i hN
      clear hN
      conv => whnf
      exact ⟨rfl, rfl⟩
    | false =>
      conv => whnf
      split
      · rename_i h
        exact Bool.noConfusion ((q1).symm.trans h)
      rename_i hN
      clear hN
      conv => whnf
      repeat first
        | (refine DRAW.seek ?_; repeat (first | refine TRYD.take ?_ | refine TRYD.next ?_); conv => whnf)
        | (refine HOLD.mk (by first | exact trivial | exact ⟨⟨rfl, rfl⟩, trivial⟩ | exact ⟨⟨rfl, rfl⟩, ⟨rfl, rfl⟩, trivial⟩) ?_; (conv => whnf))
        | (refine CALL0.by (ha7 ..) rfl ?_; conv => whnf)
        | (refine CALLQ.mk _ _ _ (leL_refl _) (ha7 ..) rfl ?_; conv => whnf)
      split
      rotate_left
      · rename_i h
        exact Bool.noConfusion ((qb).symm.trans h)
      rename_i hN
      clear hN
      conv => whnf
      split
      · rename_i h
        exact Bool.noConfusion ((qf).symm.trans h)
      rename_i hN
      clear hN
      conv => whnf
      split
      · rename_i h
        exact Bool.noConfusion ((q1).symm.trans h)
      rename_i hN
      clear hN
      conv => whnf
      exact ⟨rfl, rfl⟩
  | false =>
    have ha7 := fun up => c_rafter (gl := gl) up m s a hm hs ha
    conv => whnf
    split
    · rename_i h
      exact Bool.noConfusion ((q1).symm.trans h)
    rename_i hN
    clear hN
    conv => whnf
    repeat first
      | (refine DRAW.seek ?_; repeat (first | refine TRYD.take ?_ | refine TRYD.next ?_); conv => whnf)
      | (refine HOLD.mk (by first | exact trivial | exact ⟨⟨rfl, rfl⟩, trivial⟩ | exact ⟨⟨rfl, rfl⟩, ⟨rfl, rfl⟩, trivial⟩) ?_; (conv => whnf))
      | (refine CALL0.by (ha7 ..) rfl ?_; conv => whnf)
      | (refine CALLQ.mk _ _ _ (leL_refl _) (ha7 ..) rfl ?_; conv => whnf)
    split
    · rename_i h
      exact Bool.noConfusion ((qb).symm.trans h)
    rename_i hN
    clear hN
    conv => whnf
    split
    · rename_i h
      exact Bool.noConfusion ((q1).symm.trans h)
    rename_i hN
    clear hN
    conv => whnf
    exact ⟨rfl, rfl⟩


theorem c_rForbids (up : List Ces) (m : Mc) (s : Sta) (a : Ac) (hm : m.ok) (hs : s.rng m) (ha : a.ok m) (hk : eqS a.kind ByteArray.empty = false) (k : Nat) (h : k < 7) :
    Cs gl n_nacelleref05_Forbids up [m.iv, s.iv, a.iv, .int .i64 ((k : Int) + 1)] (.bool (s.ruleN m a k)) up := by
  obtain rfl | rfl | rfl | rfl | rfl | rfl | rfl : k = 0 ∨ k = 1 ∨ k = 2 ∨ k = 3 ∨ k = 4 ∨ k = 5 ∨ k = 6 := by omega
  · exact c_rF1 up m s a hk
  · exact c_rF2 up m s a hk
  · exact c_rF3 up m s a hk
  · exact c_rF4 up m s a hk
  · exact c_rF5 up m s a hk
  · exact c_rF6 up m s a hk
  · exact c_rF7 up m s a hk hm hs ha

theorem c_rAllowed (up : List Ces) (m : Mc) (s : Sta) (a : Ac) (hm : m.ok) (hs : s.rng m) (ha : a.ok m) (hk : eqS a.kind ByteArray.empty = false) : Cs gl n_nacelleref05_Allowed up [m.iv, s.iv, a.iv] (.int .i64 (s.allowedN m a)) up := by
  refine mk h_nacelleref05_Allowed rfl rfl ?_
  have hF := fun up k h => c_rForbids (gl := gl) up m s a hm hs ha hk k h
  have e : s.allowedN m a = firstT (s.ruleN m a) 7 0 := rfl
  rw [e]
  clear e
  generalize s.ruleN m a = f at hF
  conv => whnf
  refine .mk (α := {k : Nat // k ≤ 7 ∧ firstT f 7 0 = firstT f (7 - k) k}) (fun k => ⟨[(7, .int .i64 ((k.1 : Int) + 1)), (5, .ptr 0 5 0), (4, .ptr 0 4 0), (3, .ptr 0 3 0)], [(5, [.str a.kind, .int .i64 a.wind, .int .i64 a.pitch, .int .i64 a.tor, .int .i64 a.stuck]), (4, s.cs), (3, m.cs)], up⟩) (fun k => 7 - k.1) ⟨0, Nat.zero_le _, rfl⟩ ⟨?_, ?_, rfl, rfl⟩ ?_
  · exact ⟨leV_refl _, leV_refl _, leV_refl _, leV_refl _, trivial⟩
  · exact ⟨leL_refl _, leL_refl _, leL_refl _, trivial⟩
  rintro ⟨k, hk7, he⟩
  have hw : w64 ((k : Int) + 1 + 1) = ((k + 1 : Nat) : Int) + 1 := by rw [w64, wrap_in] <;> omega
  by_cases hlt : k < 7
  · have q : decide ((k : Int) + 1 ≤ 7) = true := decide_eq_true (by omega)
    have hf := fun up => hF up k hlt
    rw [show 7 - k = (7 - (k + 1)) + 1 by omega] at he
    cases qf : f k with
    | true =>
      rw [qf] at hf
      rw [firstT_yes qf] at he
      conv => whnf
      split
      rotate_left
      · rename_i h
        exact Bool.noConfusion ((q).symm.trans h)
      rename_i hN
      clear hN
      conv => whnf
      repeat first
        | (refine DRAW.seek ?_; repeat (first | refine TRYD.take ?_ | refine TRYD.next ?_); conv => whnf)
        | (refine HOLD.mk (by first | exact trivial | exact ⟨⟨rfl, rfl⟩, trivial⟩ | exact ⟨⟨rfl, rfl⟩, ⟨rfl, rfl⟩, trivial⟩) ?_; (conv => whnf))
        | (refine CALL0.by (hf ..) rfl ?_; conv => whnf)
        | (refine CALLQ.mk _ _ _ (leL_refl _) (hf ..) rfl ?_; conv => whnf)
      refine ⟨?_, rfl⟩
      show IV.int .i64 ((k : Int) + 1) = _
      rw [he]
      rfl
    | false =>
      rw [qf] at hf
      rw [firstT_no qf] at he
      conv => whnf
      split
      rotate_left
      · rename_i h
        exact Bool.noConfusion ((q).symm.trans h)
      rename_i hN
      clear hN
      conv => whnf
      repeat first
        | (refine DRAW.seek ?_; repeat (first | refine TRYD.take ?_ | refine TRYD.next ?_); conv => whnf)
        | (refine HOLD.mk (by first | exact trivial | exact ⟨⟨rfl, rfl⟩, trivial⟩ | exact ⟨⟨rfl, rfl⟩, ⟨rfl, rfl⟩, trivial⟩) ?_; (conv => whnf))
        | (refine CALL0.by (hf ..) rfl ?_; conv => whnf)
        | (refine CALLQ.mk _ _ _ (leL_refl _) (hf ..) rfl ?_; conv => whnf)
      exact ⟨⟨k + 1, hlt, he⟩, ⟨⟨leV_int hw, leV_refl _, leV_refl _, leV_refl _, trivial⟩, ⟨leL_refl _, leL_refl _, leL_refl _, trivial⟩, rfl, rfl⟩, (by show 7 - (k + 1) < 7 - k; omega)⟩
  · have q : decide ((k : Int) + 1 ≤ 7) = false := decide_eq_false (by omega)
    have : k = 7 := by omega
    subst this
    conv => whnf
    exact ⟨congrArg (IV.int .i64) he.symm, rfl⟩

/-- A start in the mode idle is forbidden by the rule 4 alone. -/
theorem start_rule {s : Sta} {m : Mc} (h : eqS s.mode sIdle = true) : (s.allowedN m (plainA sStart) == 4) = s.ruleN m (plainA sStart) 3 := by
  have e : s.allowedN m (plainA sStart) = firstT (s.ruleN m (plainA sStart)) 7 0 := rfl
  have k0 : eqS sStart sTick = false := kinds_ne (eqS_iff.2 rfl) (by decide)
  have k1 : eqS sStart sBrake = false := kinds_ne (eqS_iff.2 rfl) (by decide)
  have k2 : eqS sStart sStop = false := kinds_ne (eqS_iff.2 rfl) (by decide)
  have k3 : eqS sStart sRest = false := kinds_ne (eqS_iff.2 rfl) (by decide)
  have k4 : eqS sStart ByteArray.empty = false := kinds_ne (eqS_iff.2 rfl) (by decide)
  have r0 : s.ruleN m (plainA sStart) 0 = false := by
    show (inK sStart sStart sRepair && (!eqS s.mode sIdle)) = false
    rw [h]; simp
  have r1 : s.ruleN m (plainA sStart) 1 = false := by
    show (inK sStart sTick sStop && _) = false
    rw [inK_eq, k0, k2]; rfl
  have r2 : s.ruleN m (plainA sStart) 2 = false := by
    show (inK sStart sBrake sRest && _) = false
    rw [inK_eq, k1, k3]; rfl
  have r4 : s.ruleN m (plainA sStart) 4 = false := by
    show (inK sStart sRest ByteArray.empty && _) = false
    rw [inK_eq, k3, k4]; rfl
  have r5 : s.ruleN m (plainA sStart) 5 = false := by
    show (inK sStart sTick sBrake && _) = false
    rw [inK_eq, k0, k1]; rfl
  have r6 : s.ruleN m (plainA sStart) 6 = false := by
    show (inK sStart sTick sBrake && _) = false
    rw [inK_eq, k0, k1]; rfl
  rw [e]
  simp only [firstT]
  rw [r0, r1, r2, r4, r5, r6]
  cases s.ruleN m (plainA sStart) 3 <;> rfl

theorem pitch_eq (s : Sta) (m : Mc) : minW m.fea (maxW 0 (w64 (m.gain * w64 (s.speed - m.rated)))) = s.pitchW m := by
  unfold Sta.pitchW minW maxW
  (repeat' split) <;> omega
theorem tor_eq (s : Sta) (m : Mc) : minW m.tor (w64 (Int.tdiv (w64 (m.tor * s.speed)) m.rated)) = s.torW m := by
  unfold Sta.torW minW
  (repeat' split) <;> omega

set_option maxHeartbeats 16000000 in
theorem c_rPropose (up : List Ces) (m : Mc) (s : Sta) (wind : Int) (hm : m.ok) (hs : s.rng m) (hsp : s.speed ≤ 10000) (hst : -1 ≤ s.stuck ∧ s.stuck ≤ 2) (hw : 0 ≤ wind ∧ wind ≤ m.wind) :
    Cs gl n_nacelleref05_Propose up [m.iv, s.iv, .int .i64 wind] (s.proposeW m wind).iv up := by
  have hra := hm.rated
  have hfe := hm.fea
  have z : (m.rated != 0) = true := by
    have : m.rated ≠ 0 := by omega
    simpa using this
  have e1 : eqS sStart ByteArray.empty = false := kinds_ne (eqS_iff.2 rfl) (by decide)
  have e2 : eqS sRest ByteArray.empty = false := kinds_ne (eqS_iff.2 rfl) (by decide)
  have e3 : eqS sTick ByteArray.empty = false := kinds_ne (eqS_iff.2 rfl) (by decide)
  have hF := fun up => c_rForbids (gl := gl) up m s (plainA sStart) hm hs (plain_ok hm _) e1 3 (by decide)
  have hR := fun up => c_rAllowed (gl := gl) up m s (plainA sRest) hm hs (plain_ok hm _) e2
  have hT := fun up => c_rAllowed (gl := gl) up m s (s.tickA wind (s.pitchW m) (s.torW m)) hm hs (tick_ok hm ⟨hs.speed.1, hsp⟩ hst hw (pitch_rng hm s)) e3
  have hU := fun up => c_rAllowed (gl := gl) up m s (s.tickA wind m.fea (s.torW m)) hm hs (tick_ok hm ⟨hs.speed.1, hsp⟩ hst hw ⟨by omega, Int.le_refl _⟩) e3
  rw [← pitch_eq, ← tor_eq] at hT
  rw [← tor_eq] at hU
  refine mk h_nacelleref05_Propose rfl rfl ?_
  unfold Sta.proposeW
  rw [← pitch_eq, ← tor_eq]
  cases q1 : eqS s.mode sIdle with
  | true =>
    rw [start_rule q1, cond_true]
    cases qf : s.ruleN m (plainA sStart) 3 with
    | true =>
      rw [qf] at hF
      conv => whnf
      split
      rotate_left
      · rename_i h
        exact Bool.noConfusion ((q1).symm.trans h)
      rename_i hN
      clear hN
      conv => whnf
      repeat first
        | (refine DRAW.seek ?_; repeat (first | refine TRYD.take ?_ | refine TRYD.next ?_); conv => whnf)
        | (refine HOLD.mk (by first | exact trivial | exact ⟨⟨rfl, rfl⟩, trivial⟩ | exact ⟨⟨rfl, rfl⟩, ⟨rfl, rfl⟩, trivial⟩) ?_; (conv => whnf))
        | (refine CALL0.by (hF ..) rfl ?_; conv => whnf)
        | (refine CALLQ.mk _ _ _ (leL_refl _) (hF ..) rfl ?_; conv => whnf)
      exact ⟨rfl, rfl⟩
    | false =>
      rw [qf] at hF
      conv => whnf
      split
      rotate_left
      · rename_i h
        exact Bool.noConfusion ((q1).symm.trans h)
      rename_i hN
      clear hN
      conv => whnf
      repeat first
        | (refine DRAW.seek ?_; repeat (first | refine TRYD.take ?_ | refine TRYD.next ?_); conv => whnf)
        | (refine HOLD.mk (by first | exact trivial | exact ⟨⟨rfl, rfl⟩, trivial⟩ | exact ⟨⟨rfl, rfl⟩, ⟨rfl, rfl⟩, trivial⟩) ?_; (conv => whnf))
        | (refine CALL0.by (hF ..) rfl ?_; conv => whnf)
        | (refine CALLQ.mk _ _ _ (leL_refl _) (hF ..) rfl ?_; conv => whnf)
      exact ⟨rfl, rfl⟩
  | false =>
  rw [cond_false]
  cases q2 : eqS s.mode sStop with
  | true =>
    rw [cond_true]
    cases q3 : (s.allowedN m (plainA sRest) == 0) with
    | true =>
      conv => whnf
      split
      · rename_i h
        exact Bool.noConfusion ((q1).symm.trans h)
      rename_i hN
      clear hN
      conv => whnf
      split
      rotate_left
      · rename_i h
        exact Bool.noConfusion ((q2).symm.trans h)
      rename_i hN
      clear hN
      conv => whnf
      repeat first
        | (refine DRAW.seek ?_; repeat (first | refine TRYD.take ?_ | refine TRYD.next ?_); conv => whnf)
        | (refine HOLD.mk (by first | exact trivial | exact ⟨⟨rfl, rfl⟩, trivial⟩ | exact ⟨⟨rfl, rfl⟩, ⟨rfl, rfl⟩, trivial⟩) ?_; (conv => whnf))
        | (refine CALL0.by (hR ..) rfl ?_; conv => whnf)
        | (refine CALLQ.mk _ _ _ (leL_refl _) (hR ..) rfl ?_; conv => whnf)
      split
      rotate_left
      · rename_i h
        exact Bool.noConfusion ((q3).symm.trans h)
      rename_i hN
      clear hN
      conv => whnf
      exact ⟨rfl, rfl⟩
    | false =>
      conv => whnf
      split
      · rename_i h
        exact Bool.noConfusion ((q1).symm.trans h)
      rename_i hN
      clear hN
      conv => whnf
      split
      rotate_left
      · rename_i h
        exact Bool.noConfusion ((q2).symm.trans h)
      rename_i hN
      clear hN
      conv => whnf
      repeat first
        | (refine DRAW.seek ?_; repeat (first | refine TRYD.take ?_ | refine TRYD.next ?_); conv => whnf)
        | (refine HOLD.mk (by first | exact trivial | exact ⟨⟨rfl, rfl⟩, trivial⟩ | exact ⟨⟨rfl, rfl⟩, ⟨rfl, rfl⟩, trivial⟩) ?_; (conv => whnf))
        | (refine CALL0.by (hR ..) rfl ?_; conv => whnf)
        | (refine CALLQ.mk _ _ _ (leL_refl _) (hR ..) rfl ?_; conv => whnf)
      split
      · rename_i h
        exact Bool.noConfusion ((q3).symm.trans h)
      rename_i hN
      clear hN
      conv => whnf
      exact ⟨rfl, rfl⟩
  | false =>
  rw [cond_false]
  cases q3 : (s.allowedN m (s.tickA wind (minW m.fea (maxW 0 (w64 (m.gain * w64 (s.speed - m.rated))))) (minW m.tor (w64 (Int.tdiv (w64 (m.tor * s.speed)) m.rated)))) == 0) with
  | true =>
    conv => whnf
    split
    · rename_i h
      exact Bool.noConfusion ((q1).symm.trans h)
    rename_i hN
    clear hN
    conv => whnf
    split
    · rename_i h
      exact Bool.noConfusion ((q2).symm.trans h)
    rename_i hN
    clear hN
    conv => whnf
    refine DRAW.seek ?_
    repeat (first | refine TRYD.take ?_ | refine TRYD.next ?_)
    conv => whnf
    split
    rotate_left
    · rename_i h
      exact Bool.noConfusion ((z).symm.trans h)
    rename_i hN
    clear hN
    conv => whnf
    repeat first
      | (refine DRAW.seek ?_; repeat (first | refine TRYD.take ?_ | refine TRYD.next ?_); conv => whnf)
      | (refine HOLD.mk (by first | exact trivial | exact ⟨⟨rfl, rfl⟩, trivial⟩ | exact ⟨⟨rfl, rfl⟩, ⟨rfl, rfl⟩, trivial⟩) ?_; (conv => whnf))
      | (refine CALL0.by (hT ..) rfl ?_; conv => whnf)
      | (refine CALLQ.mk _ _ _ (leL_refl _) (hT ..) rfl ?_; conv => whnf)
    split
    rotate_left
    · rename_i h
      exact Bool.noConfusion ((q3).symm.trans h)
    rename_i hN
    clear hN
    conv => whnf
    exact ⟨rfl, rfl⟩
  | false =>
  rw [cond_false]
  cases q4 : (s.allowedN m (s.tickA wind m.fea (minW m.tor (w64 (Int.tdiv (w64 (m.tor * s.speed)) m.rated)))) == 0) with
  | true =>
    conv => whnf
    split
    · rename_i h
      exact Bool.noConfusion ((q1).symm.trans h)
    rename_i hN
    clear hN
    conv => whnf
    split
    · rename_i h
      exact Bool.noConfusion ((q2).symm.trans h)
    rename_i hN
    clear hN
    conv => whnf
    refine DRAW.seek ?_
    repeat (first | refine TRYD.take ?_ | refine TRYD.next ?_)
    conv => whnf
    split
    rotate_left
    · rename_i h
      exact Bool.noConfusion ((z).symm.trans h)
    rename_i hN
    clear hN
    conv => whnf
    repeat first
      | (refine DRAW.seek ?_; repeat (first | refine TRYD.take ?_ | refine TRYD.next ?_); conv => whnf)
      | (refine HOLD.mk (by first | exact trivial | exact ⟨⟨rfl, rfl⟩, trivial⟩ | exact ⟨⟨rfl, rfl⟩, ⟨rfl, rfl⟩, trivial⟩) ?_; (conv => whnf))
      | (refine CALL0.by (hT ..) rfl ?_; conv => whnf)
      | (refine CALLQ.mk _ _ _ (leL_refl _) (hT ..) rfl ?_; conv => whnf)
    split
    · rename_i h
      exact Bool.noConfusion ((q3).symm.trans h)
    rename_i hN
    clear hN
    conv => whnf
    repeat first
      | (refine DRAW.seek ?_; repeat (first | refine TRYD.take ?_ | refine TRYD.next ?_); conv => whnf)
      | (refine HOLD.mk (by first | exact trivial | exact ⟨⟨rfl, rfl⟩, trivial⟩ | exact ⟨⟨rfl, rfl⟩, ⟨rfl, rfl⟩, trivial⟩) ?_; (conv => whnf))
      | (refine CALL0.by (hU ..) rfl ?_; conv => whnf)
      | (refine CALLQ.mk _ _ _ (leL_refl _) (hU ..) rfl ?_; conv => whnf)
    split
    rotate_left
    · rename_i h
      exact Bool.noConfusion ((q4).symm.trans h)
    rename_i hN
    clear hN
    conv => whnf
    exact ⟨rfl, rfl⟩
  | false =>
    conv => whnf
    split
    · rename_i h
      exact Bool.noConfusion ((q1).symm.trans h)
    rename_i hN
    clear hN
    conv => whnf
    split
    · rename_i h
      exact Bool.noConfusion ((q2).symm.trans h)
    rename_i hN
    clear hN
    conv => whnf
    refine DRAW.seek ?_
    repeat (first | refine TRYD.take ?_ | refine TRYD.next ?_)
    conv => whnf
    split
    rotate_left
    · rename_i h
      exact Bool.noConfusion ((z).symm.trans h)
    rename_i hN
    clear hN
    conv => whnf
    repeat first
      | (refine DRAW.seek ?_; repeat (first | refine TRYD.take ?_ | refine TRYD.next ?_); conv => whnf)
      | (refine HOLD.mk (by first | exact trivial | exact ⟨⟨rfl, rfl⟩, trivial⟩ | exact ⟨⟨rfl, rfl⟩, ⟨rfl, rfl⟩, trivial⟩) ?_; (conv => whnf))
      | (refine CALL0.by (hT ..) rfl ?_; conv => whnf)
      | (refine CALLQ.mk _ _ _ (leL_refl _) (hT ..) rfl ?_; conv => whnf)
    split
    · rename_i h
      exact Bool.noConfusion ((q3).symm.trans h)
    rename_i hN
    clear hN
    conv => whnf
    repeat first
      | (refine DRAW.seek ?_; repeat (first | refine TRYD.take ?_ | refine TRYD.next ?_); conv => whnf)
      | (refine HOLD.mk (by first | exact trivial | exact ⟨⟨rfl, rfl⟩, trivial⟩ | exact ⟨⟨rfl, rfl⟩, ⟨rfl, rfl⟩, trivial⟩) ?_; (conv => whnf))
      | (refine CALL0.by (hU ..) rfl ?_; conv => whnf)
      | (refine CALLQ.mk _ _ _ (leL_refl _) (hU ..) rfl ?_; conv => whnf)
    split
    · rename_i h
      exact Bool.noConfusion ((q4).symm.trans h)
    rename_i hN
    clear hN
    conv => whnf
    exact ⟨rfl, rfl⟩
end Go.Proofs.YtkdlegfakefjgaaGreatDoor.Ix

/-
  Cr6: contracts of the reference's functions for histories.
-/
namespace Go.Proofs.YtkdlegfakefjgaaGreatDoor.Ix
open Go.Proofs
set_option maxRecDepth 100000
set_option linter.unusedVariables false
set_option linter.unusedSimpArgs false
variable {gl : Nat → IV}

end Go.Proofs.YtkdlegfakefjgaaGreatDoor.Ix

/-
  Cr7: the reference's ramps and winds, and whether acts are the same.
-/
namespace Go.Proofs.YtkdlegfakefjgaaGreatDoor.Ix
open Go.Proofs
set_option maxRecDepth 100000
set_option linter.unusedVariables false
set_option linter.unusedSimpArgs false
variable {gl : Nat → IV}

theorem c_rCheckRamps (up : List Ces) (n : Nat) (hn : n ≤ 10000000) (w : Nat → Int) (M : Int) :
    Cs gl n_nacelleref05_CheckRamps up [.lst none 1 n fun i => [.int .i64 (w i)], .int .i64 M] (.int .i64 (rampE n w M)) up := by
  refine mk h_nacelleref05_CheckRamps rfl rfl ?_
  unfold rampE
  cases q0 : decide ((n : Int) > 1024) with
  | true =>
    conv => whnf
    split
    rotate_left
    · rename_i h
      exact Bool.noConfusion ((q0).symm.trans h)
    rename_i hN
    clear hN
    conv => whnf
    exact ⟨rfl, rfl⟩
  | false =>
  rw [cond_false]
  obtain ⟨R, hR⟩ : ∃ R, R = firstS (rampF w n M) (n + 1) 0 := ⟨_, rfl⟩
  rw [← hR]
  conv => whnf
  split
  · rename_i h
    exact Bool.noConfusion ((q0).symm.trans h)
  rename_i hN
  clear hN
  conv => whnf
  refine .mk (α := {i : Nat // i ≤ n ∧ R = firstS (rampF w n M) (n + 1 - i) i}) (fun i => ⟨[(5, .int .i64 i.1), (0, .lst none 1 n fun i => [.int .i64 (w i)]), (1, .int .i64 M)], [], up⟩) (fun i => n - i.1) ⟨0, Nat.zero_le _, hR⟩ ⟨⟨leV_refl _, leV_refl _, leV_refl _, trivial⟩, trivial, rfl, rfl⟩ ?_
  rintro ⟨i, hi, hr⟩
  have hiw : w64 ((i : Int) + 1) = ((i + 1 : Nat) : Int) := by rw [w64, wrap_in] <;> omega
  have hstep : R = bif rampF w n M i != 0 then rampF w n M i else firstS (rampF w n M) (n - i) (i + 1) := by
    rw [hr, show n + 1 - i = (n - i) + 1 by omega]; rfl
  by_cases hin : i < n
  · have q : decide ((i : Int) < n) = true := decide_eq_true (by omega)
    have e : rampF w n M i = withinS (w i) 0 999999999 := if_pos hin
    rw [e] at hstep
    cases q1 : (withinS (w i) 0 999999999 != 0) with
    | true =>
      rw [q1, cond_true] at hstep
      conv => whnf
      split
      rotate_left
      · rename_i h
        exact Bool.noConfusion ((q).symm.trans h)
      rename_i hN
      clear hN
      conv => whnf
      split
      rotate_left
      · rename_i h
        exact Bool.noConfusion ((q).symm.trans h)
      rename_i hN
      clear hN
      conv => whnf
      repeat first
        | (refine DRAW.seek ?_; repeat (first | refine TRYD.take ?_ | refine TRYD.next ?_); conv => whnf)
        | (refine HOLD.mk (by first | exact trivial | exact ⟨⟨rfl, rfl⟩, trivial⟩ | exact ⟨⟨rfl, rfl⟩, ⟨rfl, rfl⟩, trivial⟩) ?_; (conv => whnf))
        | (refine CALL0.by (c_CheckRange ..) rfl ?_; conv => whnf)
        | (refine CALLQ.mk _ _ _ (leL_refl _) (c_CheckRange ..) rfl ?_; conv => whnf)
      split
      rotate_left
      · rename_i h
        exact Bool.noConfusion ((q1).symm.trans h)
      rename_i hN
      clear hN
      conv => whnf
      exact ⟨congrArg (fun z => IV.int .i64 z) hstep.symm, rfl⟩
    | false =>
      rw [q1, cond_false] at hstep
      conv => whnf
      split
      rotate_left
      · rename_i h
        exact Bool.noConfusion ((q).symm.trans h)
      rename_i hN
      clear hN
      conv => whnf
      split
      rotate_left
      · rename_i h
        exact Bool.noConfusion ((q).symm.trans h)
      rename_i hN
      clear hN
      conv => whnf
      repeat first
        | (refine DRAW.seek ?_; repeat (first | refine TRYD.take ?_ | refine TRYD.next ?_); conv => whnf)
        | (refine HOLD.mk (by first | exact trivial | exact ⟨⟨rfl, rfl⟩, trivial⟩ | exact ⟨⟨rfl, rfl⟩, ⟨rfl, rfl⟩, trivial⟩) ?_; (conv => whnf))
        | (refine CALL0.by (c_CheckRange ..) rfl ?_; conv => whnf)
        | (refine CALLQ.mk _ _ _ (leL_refl _) (c_CheckRange ..) rfl ?_; conv => whnf)
      split
      · rename_i h
        exact Bool.noConfusion ((q1).symm.trans h)
      rename_i hN
      clear hN
      conv => whnf
      exact ⟨⟨i + 1, hin, by rw [hstep, show n + 1 - (i + 1) = n - i by omega]⟩, ⟨⟨leV_int hiw, leV_refl _, leV_refl _, trivial⟩, trivial, rfl, rfl⟩, (by show n - (i + 1) < n - i; omega)⟩
  · have q : decide ((i : Int) < n) = false := decide_eq_false (by omega)
    have e : rampF w n M i = withinS M 0 999999999 := if_neg hin
    have hr2 : R = withinS M 0 999999999 := by
      rw [hstep, e, show n - i = 0 by omega]
      cases q1 : (withinS M 0 999999999 != 0) with
      | true => rfl
      | false =>
        have : withinS M 0 999999999 = 0 := by simpa using q1
        rw [this]; rfl
    conv => whnf
    split
    · rename_i h
      exact Bool.noConfusion ((q).symm.trans h)
    rename_i hN
    clear hN
    conv => whnf
    repeat first
      | (refine DRAW.seek ?_; repeat (first | refine TRYD.take ?_ | refine TRYD.next ?_); conv => whnf)
      | (refine HOLD.mk (by first | exact trivial | exact ⟨⟨rfl, rfl⟩, trivial⟩ | exact ⟨⟨rfl, rfl⟩, ⟨rfl, rfl⟩, trivial⟩) ?_; (conv => whnf))
      | (refine CALL0.by (c_CheckRange ..) rfl ?_; conv => whnf)
      | (refine CALLQ.mk _ _ _ (leL_refl _) (c_CheckRange ..) rfl ?_; conv => whnf)
    exact ⟨congrArg (fun z => IV.int .i64 z) hr2.symm, rfl⟩

/-- The error of winds. -/
def windE (m : Mc) (n : Nat) (w : Nat → Int) : Int := bif decide ((n : Int) > 1024) then 5 else firstS (fun i => withinS (w i) 0 m.wind) n 0

theorem c_rCheckWinds (up : List Ces) (m : Mc) (n : Nat) (hn : n ≤ 10000000) (w : Nat → Int) :
    Cs gl n_nacelleref05_CheckWinds up [m.iv, .lst none 1 n fun i => [.int .i64 (w i)]] (.int .i64 (windE m n w)) up := by
  refine mk h_nacelleref05_CheckWinds rfl rfl ?_
  unfold windE
  cases q0 : decide ((n : Int) > 1024) with
  | true =>
    conv => whnf
    split
    rotate_left
    · rename_i h
      exact Bool.noConfusion ((q0).symm.trans h)
    rename_i hN
    clear hN
    conv => whnf
    exact ⟨rfl, rfl⟩
  | false =>
  rw [cond_false]
  obtain ⟨F, hF⟩ : ∃ F : Nat → Int, F = fun i => withinS (w i) 0 m.wind := ⟨_, rfl⟩
  obtain ⟨R, hR⟩ : ∃ R, R = firstS F n 0 := ⟨_, rfl⟩
  rw [← hF, ← hR]
  conv => whnf
  split
  · rename_i h
    exact Bool.noConfusion ((q0).symm.trans h)
  rename_i hN
  clear hN
  conv => whnf
  refine .mk (α := {i : Nat // i ≤ n ∧ R = firstS F (n - i) i}) (fun i => ⟨[(5, .int .i64 i.1), (2, .ptr 0 2 0), (1, .lst none 1 n fun i => [.int .i64 (w i)])], [(2, m.cs)], up⟩) (fun i => n - i.1) ⟨0, Nat.zero_le _, hR⟩ ⟨⟨leV_refl _, leV_refl _, leV_refl _, trivial⟩, ⟨leL_refl _, trivial⟩, rfl, rfl⟩ ?_
  rintro ⟨i, hi, hr⟩
  have hiw : w64 ((i : Int) + 1) = ((i + 1 : Nat) : Int) := by rw [w64, wrap_in] <;> omega
  by_cases hin : i < n
  · have q : decide ((i : Int) < n) = true := decide_eq_true (by omega)
    have hstep : R = bif F i != 0 then F i else firstS F (n - (i + 1)) (i + 1) := by
      rw [hr, show n - i = (n - (i + 1)) + 1 by omega]; rfl
    have e : F i = withinS (w i) 0 m.wind := by rw [hF]
    rw [e] at hstep
    cases q1 : (withinS (w i) 0 m.wind != 0) with
    | true =>
      rw [q1, cond_true] at hstep
      conv => whnf
      split
      rotate_left
      · rename_i h
        exact Bool.noConfusion ((q).symm.trans h)
      rename_i hN
      clear hN
      conv => whnf
      refine DRAW.seek ?_
      repeat (first | refine TRYD.take ?_ | refine TRYD.next ?_)
      conv => whnf
      split
      rotate_left
      · rename_i h
        exact Bool.noConfusion ((q).symm.trans h)
      rename_i hN
      clear hN
      conv => whnf
      repeat first
        | (refine DRAW.seek ?_; repeat (first | refine TRYD.take ?_ | refine TRYD.next ?_); conv => whnf)
        | (refine HOLD.mk (by first | exact trivial | exact ⟨⟨rfl, rfl⟩, trivial⟩ | exact ⟨⟨rfl, rfl⟩, ⟨rfl, rfl⟩, trivial⟩) ?_; (conv => whnf))
        | (refine CALL0.by (c_rWind ..) rfl ?_; conv => whnf)
        | (refine CALLQ.mk _ _ _ (leL_refl _) (c_rWind ..) rfl ?_; conv => whnf)
      split
      rotate_left
      · rename_i h
        exact Bool.noConfusion ((q1).symm.trans h)
      rename_i hN
      clear hN
      conv => whnf
      exact ⟨congrArg (fun z => IV.int .i64 z) hstep.symm, rfl⟩
    | false =>
      rw [q1, cond_false] at hstep
      conv => whnf
      split
      rotate_left
      · rename_i h
        exact Bool.noConfusion ((q).symm.trans h)
      rename_i hN
      clear hN
      conv => whnf
      refine DRAW.seek ?_
      repeat (first | refine TRYD.take ?_ | refine TRYD.next ?_)
      conv => whnf
      split
      rotate_left
      · rename_i h
        exact Bool.noConfusion ((q).symm.trans h)
      rename_i hN
      clear hN
      conv => whnf
      repeat first
        | (refine DRAW.seek ?_; repeat (first | refine TRYD.take ?_ | refine TRYD.next ?_); conv => whnf)
        | (refine HOLD.mk (by first | exact trivial | exact ⟨⟨rfl, rfl⟩, trivial⟩ | exact ⟨⟨rfl, rfl⟩, ⟨rfl, rfl⟩, trivial⟩) ?_; (conv => whnf))
        | (refine CALL0.by (c_rWind ..) rfl ?_; conv => whnf)
        | (refine CALLQ.mk _ _ _ (leL_refl _) (c_rWind ..) rfl ?_; conv => whnf)
      split
      · rename_i h
        exact Bool.noConfusion ((q1).symm.trans h)
      rename_i hN
      clear hN
      conv => whnf
      exact ⟨⟨i + 1, hin, hstep⟩, ⟨⟨leV_int hiw, leV_refl _, leV_refl _, trivial⟩, ⟨leL_refl _, trivial⟩, rfl, rfl⟩, (by show n - (i + 1) < n - i; omega)⟩
  · have q : decide ((i : Int) < n) = false := decide_eq_false (by omega)
    have hr2 : R = 0 := by rw [hr, show n - i = 0 by omega]; rfl
    conv => whnf
    split
    · rename_i h
      exact Bool.noConfusion ((q).symm.trans h)
    rename_i hN
    clear hN
    conv => whnf
    exact ⟨congrArg (fun z => IV.int .i64 z) hr2.symm, rfl⟩

theorem c_rSameActs (up : List Ces) (n : Nat) (hn : n ≤ 10000000) (f : Nat → Ac) :
    Cs gl n_nacelleref05_SameActs up [.lst none 5 n fun i => (f i).cs, .lst none 5 n fun i => (f i).cs] (.bool true) up := by
  refine mk h_nacelleref05_SameActs rfl rfl ?_
  have q0 : ((n : Int) != n) = false := by simp
  conv => whnf
  split
  · rename_i h
    exact Bool.noConfusion ((q0).symm.trans h)
  rename_i hN
  clear hN
  conv => whnf
  refine .mk (α := {i : Nat // i ≤ n}) (fun i => ⟨[(5, .int .i64 i.1), (1, .lst none 5 n fun i => (f i).cs), (0, .lst none 5 n fun i => (f i).cs)], [], up⟩) (fun i => n - i.1) ⟨0, Nat.zero_le _⟩ ⟨?_, ?_, rfl, rfl⟩ ?_
  · exact ⟨leV_refl _, leV_refl _, leV_refl _, trivial⟩
  · exact trivial
  rintro ⟨i, hi⟩
  have hw : w64 ((i : Int) + 1) = ((i + 1 : Nat) : Int) := by rw [w64, wrap_in] <;> omega
  by_cases hlt : i < n
  · have q : decide ((i : Int) < (n : Int)) = true := decide_eq_true (by omega)
    have ne : (!(eqS (f i).kind (f i).kind && ((f i).wind == (f i).wind && ((f i).pitch == (f i).pitch && ((f i).tor == (f i).tor && ((f i).stuck == (f i).stuck && true)))))) = false := by rw [eqS_iff.2 rfl]; simp
    conv => whnf
    split
    rotate_left
    · rename_i h
      exact Bool.noConfusion ((q).symm.trans h)
    rename_i hN
    clear hN
    conv => whnf
    refine DRAW.seek ?_
    repeat (first | refine TRYD.take ?_ | refine TRYD.next ?_)
    conv => whnf
    split
    rotate_left
    · rename_i h
      exact Bool.noConfusion ((q).symm.trans h)
    rename_i hN
    clear hN
    conv => whnf
    split
    rotate_left
    · rename_i h
      exact Bool.noConfusion ((q).symm.trans h)
    rename_i hN
    clear hN
    conv => whnf
    split
    · rename_i h
      exact Bool.noConfusion ((ne).symm.trans h)
    rename_i hN
    clear hN
    conv => whnf
    exact ⟨⟨i + 1, hlt⟩, ⟨⟨leV_int hw, leV_refl _, leV_refl _, trivial⟩, trivial, rfl, rfl⟩, (by show n - (i + 1) < n - i; omega)⟩
  · have q : decide ((i : Int) < (n : Int)) = false := decide_eq_false (by omega)
    conv => whnf
    split
    · rename_i h
      exact Bool.noConfusion ((q).symm.trans h)
    rename_i hN
    clear hN
    conv => whnf
    exact ⟨rfl, rfl⟩

theorem steep_iff {w : Nat → Int} {M : Int} {i : Nat} (h0 : 0 ≤ w i ∧ w i ≤ 999999999) (h1 : 0 ≤ w (i - 1) ∧ w (i - 1) ≤ 999999999) : steepB w M i = (decide (w64 (w i - w (i - 1)) > M) || decide (w64 (w (i - 1) - w i) > M)) := by
  have e1 : w64 (w i - w (i - 1)) = w i - w (i - 1) := by rw [w64, wrap_in] <;> omega
  have e2 : w64 (0 - (w i - w (i - 1))) = w (i - 1) - w i := by rw [w64, wrap_in] <;> omega
  have e3 : w64 (w (i - 1) - w i) = w (i - 1) - w i := by rw [w64, wrap_in] <;> omega
  unfold steepB maxW
  rw [e1, e2, e3]
  by_cases a : w i - w (i - 1) > M <;> by_cases b : w (i - 1) - w i > M <;> simp only [a, b, decide_true, decide_false, Bool.or_true, Bool.or_false] <;> split <;> simp <;> omega

theorem rampF_ok {w : Nat → Int} {n : Nat} {M : Int} (h : firstS (rampF w n M) (n + 1) 0 = 0) {i : Nat} (hi : i < n) : 0 ≤ w i ∧ w i ≤ 999999999 := by
  rw [firstS_zero] at h
  have := h i (by omega) (by omega)
  unfold rampF at this
  rw [if_pos hi, withinS_zero] at this
  exact this

theorem c_rRamps (up : List Ces) (n : Nat) (hn : n ≤ 10000000) (w : Nat → Int) (M : Int) (h : firstS (rampF w n M) (n + 1) 0 = 0) :
    Cs gl n_nacelleref05_Ramps up [.lst none 1 n fun i => [.int .i64 (w i)], .int .i64 M] (.int .i64 (rampN w M (n - 1) 1)) up := by
  refine mk h_nacelleref05_Ramps rfl rfl ?_
  obtain ⟨R, hR⟩ : ∃ R, R = rampN w M (n - 1) 1 := ⟨_, rfl⟩
  rw [← hR]
  conv => whnf
  refine .mk (α := {i : Nat // R = rampN w M (n - (i + 1)) (i + 1)}) (fun i => ⟨[(5, .int .i64 ((i.1 + 1 : Nat) : Int)), (0, .lst none 1 n fun i => [.int .i64 (w i)]), (1, .int .i64 M)], [], up⟩) (fun i => n - i.1) ⟨0, hR⟩ ⟨⟨leV_refl _, leV_refl _, leV_refl _, trivial⟩, trivial, rfl, rfl⟩ ?_
  rintro ⟨k, hr⟩
  by_cases hin : k + 1 < n
  · have hiw : w64 (((k + 1 : Nat) : Int) + 1) = ((k + 2 : Nat) : Int) := by rw [w64, wrap_in] <;> omega
    have hw1 : w64 (((k + 1 : Nat) : Int) - 1) = (k : Int) := by rw [w64, wrap_in] <;> omega
    have q : decide (((k + 1 : Nat) : Int) < n) = true := decide_eq_true (by omega)
    have qa : decide (0 ≤ w64 (((k + 1 : Nat) : Int) - 1)) = true := by rw [hw1]; exact decide_eq_true (by omega)
    have qb : decide (w64 (((k + 1 : Nat) : Int) - 1) < n) = true := by rw [hw1]; exact decide_eq_true (by omega)
    have hstep : R = bif steepB w M (k + 1) then ((k + 1 : Nat) : Int) else rampN w M (n - (k + 2)) (k + 2) := by
      rw [hr, show n - (k + 1) = (n - (k + 2)) + 1 by omega]; rfl
    have hs := steep_iff (M := M) (rampF_ok h hin) (rampF_ok (i := k + 1 - 1) h (by omega))
    have ek : w (w64 (((k + 1 : Nat) : Int) - 1)).toNat = w k := by rw [hw1]; rfl
    have ek1 : w (k + 1 - 1) = w k := rfl
    rw [ek1] at hs
    obtain ⟨z, hz⟩ : ∃ z, z = w (w64 (((k + 1 : Nat) : Int) - 1)).toNat := ⟨_, rfl⟩
    cases d1 : decide (w64 (w (k + 1) - w k) > M) with
    | true =>
      rw [hs, d1, Bool.true_or, cond_true] at hstep
      rw [← ek] at d1
      conv => whnf
      split
      rotate_left
      · rename_i h
        exact Bool.noConfusion ((q).symm.trans h)
      rename_i hN
      clear hN
      conv => whnf
      refine DRAW.seek ?_
      repeat (first | refine TRYD.take ?_ | refine TRYD.next ?_)
      conv => whnf
      split
      rotate_left
      · rename_i h
        exact Bool.noConfusion ((q).symm.trans h)
      rename_i hN
      clear hN
      conv => whnf
      split
      rotate_left
      · rename_i h
        exact Bool.noConfusion ((qa).symm.trans h)
      rename_i hN
      clear hN
      conv => whnf
      split
      rotate_left
      · rename_i h
        exact Bool.noConfusion ((qb).symm.trans h)
      rename_i hN
      clear hN
      conv => whnf
      split
      rotate_left
      · rename_i h
        exact Bool.noConfusion ((d1).symm.trans h)
      rename_i hN
      clear hN
      conv => whnf
      exact ⟨congrArg (fun z => IV.int .i64 z) hstep.symm, rfl⟩
    | false =>
      rw [hs, d1, Bool.false_or] at hstep
      rw [← ek] at d1
      cases d2 : decide (w64 (w k - w (k + 1)) > M) with
      | true =>
        rw [d2, cond_true] at hstep
        rw [← ek] at d2
        conv => whnf
        split
        rotate_left
        · rename_i h
          exact Bool.noConfusion ((q).symm.trans h)
        rename_i hN
        clear hN
        conv => whnf
        refine DRAW.seek ?_
        repeat (first | refine TRYD.take ?_ | refine TRYD.next ?_)
        conv => whnf
        split
        rotate_left
        · rename_i h
          exact Bool.noConfusion ((q).symm.trans h)
        rename_i hN
        clear hN
        conv => whnf
        split
        rotate_left
        · rename_i h
          exact Bool.noConfusion ((qa).symm.trans h)
        rename_i hN
        clear hN
        conv => whnf
        split
        rotate_left
        · rename_i h
          exact Bool.noConfusion ((qb).symm.trans h)
        rename_i hN
        clear hN
        conv => whnf
        split
        · rename_i h
          exact Bool.noConfusion ((d1).symm.trans h)
        rename_i hN
        clear hN
        conv => whnf
        split
        rotate_left
        · rename_i h
          exact Bool.noConfusion ((qa).symm.trans h)
        rename_i hN
        clear hN
        conv => whnf
        split
        rotate_left
        · rename_i h
          exact Bool.noConfusion ((qb).symm.trans h)
        rename_i hN
        clear hN
        conv => whnf
        split
        rotate_left
        · rename_i h
          exact Bool.noConfusion ((q).symm.trans h)
        rename_i hN
        clear hN
        conv => whnf
        split
        rotate_left
        · rename_i h
          exact Bool.noConfusion ((d2).symm.trans h)
        rename_i hN
        clear hN
        conv => whnf
        exact ⟨congrArg (fun z => IV.int .i64 z) hstep.symm, rfl⟩
      | false =>
        rw [d2, cond_false] at hstep
        rw [← ek] at d2
        conv => whnf
        split
        rotate_left
        · rename_i h
          exact Bool.noConfusion ((q).symm.trans h)
        rename_i hN
        clear hN
        conv => whnf
        refine DRAW.seek ?_
        repeat (first | refine TRYD.take ?_ | refine TRYD.next ?_)
        conv => whnf
        split
        rotate_left
        · rename_i h
          exact Bool.noConfusion ((q).symm.trans h)
        rename_i hN
        clear hN
        conv => whnf
        split
        rotate_left
        · rename_i h
          exact Bool.noConfusion ((qa).symm.trans h)
        rename_i hN
        clear hN
        conv => whnf
        split
        rotate_left
        · rename_i h
          exact Bool.noConfusion ((qb).symm.trans h)
        rename_i hN
        clear hN
        conv => whnf
        split
        · rename_i h
          exact Bool.noConfusion ((d1).symm.trans h)
        rename_i hN
        clear hN
        conv => whnf
        split
        rotate_left
        · rename_i h
          exact Bool.noConfusion ((qa).symm.trans h)
        rename_i hN
        clear hN
        conv => whnf
        split
        rotate_left
        · rename_i h
          exact Bool.noConfusion ((qb).symm.trans h)
        rename_i hN
        clear hN
        conv => whnf
        split
        rotate_left
        · rename_i h
          exact Bool.noConfusion ((q).symm.trans h)
        rename_i hN
        clear hN
        conv => whnf
        split
        · rename_i h
          exact Bool.noConfusion ((d2).symm.trans h)
        rename_i hN
        clear hN
        conv => whnf
        exact ⟨⟨k + 1, hstep⟩, ⟨⟨leV_int hiw, leV_refl _, leV_refl _, trivial⟩, trivial, rfl, rfl⟩, (by show n - (k + 1) < n - k; omega)⟩
  · have q : decide (((k + 1 : Nat) : Int) < n) = false := decide_eq_false (by omega)
    have hr2 : R = -1 := by rw [hr, show n - (k + 1) = 0 by omega]; rfl
    conv => whnf
    split
    · rename_i h
      exact Bool.noConfusion ((q).symm.trans h)
    rename_i hN
    clear hN
    conv => whnf
    exact ⟨congrArg (fun z => IV.int .i64 z) hr2.symm, rfl⟩
end Go.Proofs.YtkdlegfakefjgaaGreatDoor.Ix

/-
  Cp5: plain laws of tables: the search finds the first speed that is not safe; with an angle nearer to Feather it is no less.
-/
namespace Go.Proofs.YtkdlegfakefjgaaGreatDoor.Ix
open Go.Proofs
set_option linter.unusedVariables false
set_option linter.unusedSimpArgs false

/-- At Feather each speed up to the limit is safe. -/
theorem fea_most {m : Mc} (hm : m.ok) {v : Int} (hv : 0 ≤ v ∧ v ≤ m.lim) (k : Int) (h1 : -1 ≤ k) (h2 : k ≤ 2) : ∀ n, ((atS m.fea v).stepW m k n).p0 = m.fea ∧ ((atS m.fea v).stepW m k n).p1 = m.fea ∧ ((atS m.fea v).stepW m k n).p2 = m.fea ∧ ((atS m.fea v).stepW m k n).speed ≤ v ∧ (atS m.fea v).most m k n = v
  | 0 => ⟨rfl, rfl, rfl, Int.le_refl _, rfl⟩
  | n + 1 => by
    obtain ⟨a, b, c, d, e⟩ := fea_most hm hv k h1 h2 n
    have hl := hm.lim
    have hf := hm.fea
    have hr := hm.rate
    have hw := hm.wind
    have h2w := hm.two
    have hs := atS_rng hm (a := m.fea) ⟨by omega, Int.le_refl _⟩ hv
    have hb := (stepW_bnd hm h1 h2 hs (mu_start hm hs (by show v ≤ 10000; omega) k) n).1
    have e2 := braked_eq hm hb m.wind k (by omega)
    have g : (atS m.fea v).stepW m k (n + 1) = ((atS m.fea v).stepW m k n).brakedW m m.wind k := rfl
    have q0 : ∀ i : Int, stepP m k i m.fea = m.fea := fun i => by unfold stepP; split <;> omega
    rw [a, b, c, q0, q0, q0] at e2
    rw [g, e2]
    have hsp : max 0 (((atS m.fea v).stepW m k n).speed + m.wind - m.fea - m.fea - m.fea) ≤ v := by omega
    refine ⟨rfl, rfl, rfl, hsp, ?_⟩
    show maxW ((atS m.fea v).most m k n) ((atS m.fea v).stepW m k (n + 1)).speed = v
    rw [g, e2, e, maxW_eq]
    show max v (max 0 _) = v
    omega

theorem fea_safe {m : Mc} (hm : m.ok) {v : Int} (hv : 0 ≤ v ∧ v ≤ m.lim) : (atS m.fea v).safeN m = true := by
  rw [safeN_iff]
  intro k hk
  right
  unfold Sta.pk
  rw [(fea_most hm hv (k : Nat) (by omega) (by omega) _).2.2.2.2]
  omega

end Go.Proofs.YtkdlegfakefjgaaGreatDoor.Ix

/-
  Cp6: plain laws of histories: what is reached has no error, and a rotor that runs is safe; a stop that is braked in any wind rests in time.
-/
namespace Go.Proofs.YtkdlegfakefjgaaGreatDoor.Ix
open Go.Proofs
set_option linter.unusedVariables false
set_option linter.unusedSimpArgs false

/-- What is reached: no error, and safe if it runs. -/
structure Sta.good (s : Sta) (m : Mc) : Prop where
  err : s.err m = 0
  safe : eqS s.mode sRun = true → s.safeN m = true

theorem Sta.good.inv {s : Sta} {m : Mc} (h : s.good m) : s.inv m := by
  obtain ⟨_, hr, hl, hs, _⟩ := Sta.err_rng h.err
  exact ⟨hr, hl, hs⟩

theorem err_mk {m : Mc} (hm : m.ok) {s : Sta} (hi : s.inv m) (ht : 0 ≤ s.tor ∧ s.tor ≤ m.tor) (hk : s.known = true) (hf : s.fits m = true) : s.err m = 0 := by
  unfold Sta.err Sta.err1 Sta.err2
  rw [orE_zero, orL_zero, orL_zero]
  simp only [List.mem_cons, List.not_mem_nil, or_false, forall_eq_or_imp, forall_eq, withinS_zero]
  rw [hk, hf]
  exact ⟨⟨Mc.err_of hm, rfl, hi.rng.speed.1, hi.lim⟩, hi.rng.p0, hi.rng.p1, hi.rng.p2, ht, hi.stuck, rfl⟩

theorem ne_run_idle : eqS sRun sIdle = false := kinds_ne (eqS_iff.2 rfl) (by decide)
theorem ne_stop_idle : eqS sStop sIdle = false := kinds_ne (eqS_iff.2 rfl) (by decide)
theorem ne_stop_run : eqS sStop sRun = false := kinds_ne (eqS_iff.2 rfl) (by decide)
theorem ne_idle_run : eqS sIdle sRun = false := kinds_ne (eqS_iff.2 rfl) (by decide)
theorem eq_self (a : ByteArray) : eqS a a = true := eqS_iff.2 rfl

theorem known_run {s : Sta} (h : s.mode = sRun) : s.known = true := by
  rw [known_has, hasW_modes, h, eq_self]; simp
theorem known_stop {s : Sta} (h : s.mode = sStop) : s.known = true := by
  rw [known_has, hasW_modes, h, eq_self]; simp
theorem known_idle {s : Sta} (h : s.mode = sIdle) : s.known = true := by
  rw [known_has, hasW_modes, h, eq_self]; simp
theorem fits_run {s : Sta} {m : Mc} (h : s.mode = sRun) : s.fits m = true := by
  unfold Sta.fits
  simp only [eqS_beq]
  rw [h, ne_run_idle, eq_self]; rfl
theorem fits_stop {s : Sta} {m : Mc} (h : s.mode = sStop) (ht : s.tor = 0) : s.fits m = true := by
  unfold Sta.fits
  simp only [eqS_beq]
  rw [h, ne_stop_idle, ne_stop_run, eq_self, ht]; rfl
theorem fits_idle {s : Sta} {m : Mc} (h : s.mode = sIdle) (h1 : s.speed = 0) (h2 : s.tor = 0) (h3 : 2 ≤ atA m.fea [s.p0, s.p1, s.p2]) : s.fits m = true := by
  unfold Sta.fits
  simp only [eqS_beq]
  rw [h, eq_self, h1, h2, decide_eq_true (show atA m.fea [s.p0, s.p1, s.p2] ≥ 2 from h3)]; rfl
theorem fits_inv {s : Sta} {m : Mc} (h : s.fits m = true) : (eqS s.mode sIdle = true → s.speed = 0 ∧ s.tor = 0 ∧ 2 ≤ atA m.fea [s.p0, s.p1, s.p2]) ∧ (eqS s.mode sStop = true → s.tor = 0) := by
  unfold Sta.fits at h
  simp only [eqS_beq] at h
  constructor
  · intro hi
    rw [hi, cond_true, Bool.and_eq_true, Bool.and_eq_true] at h
    exact ⟨by simpa using h.1, by simpa using h.2.1, of_decide_eq_true h.2.2⟩
  · intro hi
    have e1 : eqS s.mode sIdle = false := kinds_ne hi (by decide)
    have e2 : eqS s.mode sRun = false := kinds_ne hi (by decide)
    rw [e1, e2, hi] at h
    simpa using h

theorem begin_good {m : Mc} (hm : m.ok) : (beginS m).good m := by
  have ht := hm.tor
  refine ⟨err_mk hm (begin_inv hm) ⟨Int.le_refl _, ht.1⟩ (known_idle rfl) (fits_idle rfl rfl rfl ?_), fun h => ?_⟩
  · show 2 ≤ atA m.fea [m.fea, m.fea, m.fea]
    simp [atA]
  · have h : eqS sIdle sRun = true := h
    rw [ne_idle_run] at h; cases h

theorem rule_mode {s : Sta} {m : Mc} {a : Ac} (h : s.allowedN m a = 0) : ((eqS a.kind sStart = true ∨ eqS a.kind sRepair = true) → eqS s.mode sIdle = true) ∧ ((eqS a.kind sTick = true ∨ eqS a.kind sStop = true) → eqS s.mode sRun = true) ∧ ((eqS a.kind sBrake = true ∨ eqS a.kind sRest = true) → eqS s.mode sStop = true) := by
  have h0 : (inK a.kind sStart sRepair && (!eqS s.mode sIdle)) = false := allowed_zero h 0 (by decide)
  have h1 : (inK a.kind sTick sStop && (!eqS s.mode sRun)) = false := allowed_zero h 1 (by decide)
  have h2 : (inK a.kind sBrake sRest && (!eqS s.mode sStop)) = false := allowed_zero h 2 (by decide)
  rw [inK_eq] at h0 h1 h2
  refine ⟨fun k => ?_, fun k => ?_, fun k => ?_⟩
  · rw [show (eqS a.kind sStart || eqS a.kind sRepair) = true by rcases k with k | k <;> simp [k], Bool.true_and] at h0
    simpa using h0
  · rw [show (eqS a.kind sTick || eqS a.kind sStop) = true by rcases k with k | k <;> simp [k], Bool.true_and] at h1
    simpa using h1
  · rw [show (eqS a.kind sBrake || eqS a.kind sRest) = true by rcases k with k | k <;> simp [k], Bool.true_and] at h2
    simpa using h2

theorem atA_three {f a b c : Int} : 3 ≤ atA f [a, b, c] ↔ a = f ∧ b = f ∧ c = f := by
  simp only [atA]
  by_cases h0 : a = f <;> by_cases h1 : b = f <;> by_cases h2 : c = f <;> simp [h0, h1, h2]

theorem behind_good {m : Mc} (hm : m.ok) {s : Sta} (hs : s.good m) {a : Ac} (ha : a.ok m) (h : s.allowedN m a = 0) : (s.behindW m a).good m := by
  have hinv := behind_inv hm hs.inv ha h
  obtain ⟨_, hr, hl, hst, htor, hkn, hft⟩ := Sta.err_rng hs.err
  obtain ⟨f1, f2⟩ := fits_inv hft
  obtain ⟨r1, r2, r3⟩ := rule_mode h
  have ht := hm.tor
  cases q1 : eqS a.kind sStart with
  | true =>
    have e : s.behindW m a = { s with mode := sRun } := by unfold Sta.behindW; rw [q1]; rfl
    have hi := r1 (.inl q1)
    obtain ⟨g1, g2, g3⟩ := f1 hi
    have h3 : (inK a.kind sStart ByteArray.empty && s.rule4 m) = false := allowed_zero h 3 (by decide)
    rw [inK_eq, q1, Bool.true_or, Bool.true_and, rule4_eq, Bool.or_eq_false_iff] at h3
    have a3 : 3 ≤ atA m.fea [s.p0, s.p1, s.p2] := by have := of_decide_eq_false h3.1; omega
    obtain ⟨p0, p1, p2⟩ := atA_three.1 a3
    have hsk : s.stuck = -1 := by simpa using h3.2
    have e2 : s.behindW m a = atS m.fea 0 := by
      rw [e]
      show (⟨sRun, s.speed, s.p0, s.p1, s.p2, s.tor, s.stuck⟩ : Sta) = ⟨sRun, 0, m.fea, m.fea, m.fea, 0, -1⟩
      rw [g1, g2, p0, p1, p2, hsk]
    have hl := hm.lim
    refine ⟨err_mk hm hinv (by rw [e]; exact htor) (known_run (by rw [e])) (fits_run (by rw [e])), fun _ => ?_⟩
    rw [e2]
    exact fea_safe hm ⟨Int.le_refl _, by omega⟩
  | false =>
  cases q2 : eqS a.kind sTick with
  | true =>
    have e : s.behindW m a = Sta.laterW { s.movedW m a.pitch a.stuck with tor := a.tor } a.wind := by unfold Sta.behindW; rw [q1, q2]; rfl
    have hi := eqS_iff.1 (r2 (.inl q2))
    have em : (s.behindW m a).mode = sRun := by rw [e]; exact hi
    have et : (s.behindW m a).tor = a.tor := by rw [e]; rfl
    refine ⟨err_mk hm hinv (by rw [et]; exact ha.tor) (known_run em) (fits_run em), fun _ => ?_⟩
    have h6 : (inK a.kind sTick sBrake && s.rule7 m a (fun k => (s.behindW m a).num m k)) = false := allowed_zero h 6 (by decide)
    rw [inK_eq, q2, Bool.true_or, Bool.true_and] at h6
    unfold Sta.rule7 at h6
    rw [q2, Bool.or_eq_false_iff, Bool.true_and] at h6
    have := h6.2
    unfold Sta.safeN
    simpa using this
  | false =>
  cases q3 : eqS a.kind sStop with
  | true =>
    have e : s.behindW m a = { s with mode := sStop, tor := 0 } := by unfold Sta.behindW; rw [q1, q2, q3]; rfl
    refine ⟨err_mk hm hinv (by rw [e]; exact ⟨Int.le_refl _, ht.1⟩) (known_stop (by rw [e])) (fits_stop (by rw [e]) (by rw [e])), fun hrun => ?_⟩
    rw [e] at hrun
    have hrun : eqS sStop sRun = true := hrun
    rw [ne_stop_run] at hrun; cases hrun
  | false =>
  cases q4 : eqS a.kind sBrake with
  | true =>
    have e : s.behindW m a = s.brakedW m a.wind a.stuck := by unfold Sta.behindW; rw [q1, q2, q3, q4]; rfl
    refine ⟨err_mk hm hinv (by rw [e]; exact ⟨Int.le_refl _, ht.1⟩) (known_stop (by rw [e]; rfl)) (fits_stop (by rw [e]; rfl) (by rw [e]; rfl)), fun hrun => ?_⟩
    rw [e] at hrun
    have hrun : eqS sStop sRun = true := hrun
    rw [ne_stop_run] at hrun; cases hrun
  | false =>
  cases q5 : eqS a.kind sRest with
  | true =>
    have e : s.behindW m a = { s with mode := sIdle } := by unfold Sta.behindW; rw [q1, q2, q3, q4, q5]; rfl
    have h4 : (inK a.kind sRest ByteArray.empty && s.rule5 m) = false := allowed_zero h 4 (by decide)
    rw [inK_eq, q5, Bool.true_or, Bool.true_and] at h4
    unfold Sta.rule5 at h4
    rw [Bool.or_eq_false_iff] at h4
    have hsp : s.speed = 0 := by simpa using h4.1
    have hfe : 2 ≤ atA m.fea [s.p0, s.p1, s.p2] := by have := of_decide_eq_false h4.2; omega
    have ht0 := f2 (r3 (.inr q5))
    refine ⟨err_mk hm hinv (by rw [e]; exact htor) (known_idle (by rw [e])) (fits_idle (by rw [e]) (by rw [e]; exact hsp) (by rw [e]; exact ht0) (by rw [e]; exact hfe)), fun hrun => ?_⟩
    rw [e] at hrun
    have hrun : eqS sIdle sRun = true := hrun
    rw [ne_idle_run] at hrun; cases hrun
  | false =>
  cases q6 : eqS a.kind sRepair with
  | true =>
    have e : s.behindW m a = { s with p0 := m.fea, p1 := m.fea, p2 := m.fea, stuck := -1 } := by unfold Sta.behindW; rw [q1, q2, q3, q4, q5, q6]; rfl
    have hi := r1 (.inr q6)
    obtain ⟨g1, g2, g3⟩ := f1 hi
    have hmode := eqS_iff.1 hi
    refine ⟨err_mk hm hinv (by rw [e]; exact htor) (known_idle (by rw [e]; exact hmode)) (fits_idle (by rw [e]; exact hmode) (by rw [e]; exact g1) (by rw [e]; exact g2) (by rw [e]; show 2 ≤ atA m.fea [m.fea, m.fea, m.fea]; simp [atA])), fun hrun => ?_⟩
    rw [e] at hrun
    have hrun : eqS s.mode sRun = true := hrun
    rw [hmode, ne_idle_run] at hrun; cases hrun
  | false =>
    have e : s.behindW m a = s := by unfold Sta.behindW; rw [q1, q2, q3, q4, q5, q6]; rfl
    rw [e]
    exact hs

end Go.Proofs.YtkdlegfakefjgaaGreatDoor.Ix

/-
  Cp7: a stop that is braked in any wind, with a blade that is stuck in some steps.
-/
namespace Go.Proofs.YtkdlegfakefjgaaGreatDoor.Ix
open Go.Proofs
set_option linter.unusedVariables false
set_option linter.unusedSimpArgs false

theorem most_at (s : Sta) (m : Mc) (k : Int) : ∀ n, (s.stepW m k n).speed ≤ s.most m k n
  | 0 => Int.le_refl _
  | n + 1 => by
    show (s.stepW m k (n + 1)).speed ≤ maxW _ _
    rw [maxW_eq]; omega

theorem stepW_pk {m : Mc} (hm : m.ok) {s : Sta} (hs : s.rng m) (hsp : s.speed ≤ 10000) {k : Int} (h1 : -1 ≤ k) (h2 : k ≤ 2) (n : Nat) : (s.stepW m k n).speed ≤ s.pk m k := by
  have a := most_at s m k n
  rcases Nat.le_total (s.num m k) n with h | h
  · rw [pk_at hm hs hsp h1 h2 h] at a; exact a
  · have mono : ∀ d, s.most m k n ≤ s.most m k (n + d) := fun d => by
      induction d with
      | zero => exact Int.le_refl _
      | succ d ih =>
        show _ ≤ maxW (s.most m k (n + d)) _
        rw [maxW_eq]; omega
    have := mono (s.num m k - n)
    rw [show n + (s.num m k - n) = s.num m k by omega] at this
    unfold Sta.pk
    omega

theorem fire {f : Nat → Bool} (h0 : f 0 = false) (h1 : f 1 = false) (h2 : f 2 = false) (h3 : f 3 = false) (h5 : f 5 = false) (h6 : f 6 = false) : firstT f 7 0 = bif f 4 then 5 else 0 := by
  simp only [firstT]
  rw [h0, h1, h2, h3, h5, h6]
  cases f 4 <;> rfl

theorem brake_allowed {m : Mc} {s : Sta} (h : s.mode = sStop) {w k b : Int} (hk : k = b ∨ k = -1) (hst : s.stuck = -1 ∨ s.stuck = b) (hl : (s.brakedW m w k).speed ≤ m.lim) : s.allowedN m ⟨sBrake, w, 0, 0, k⟩ = 0 ∧ s.behindW m ⟨sBrake, w, 0, 0, k⟩ = s.brakedW m w k := by
  have k0 : eqS sBrake sStart = false := kinds_ne (eqS_iff.2 rfl) (by decide)
  have k1 : eqS sBrake sRepair = false := kinds_ne (eqS_iff.2 rfl) (by decide)
  have k2 : eqS sBrake sTick = false := kinds_ne (eqS_iff.2 rfl) (by decide)
  have k3 : eqS sBrake sStop = false := kinds_ne (eqS_iff.2 rfl) (by decide)
  have k4 : eqS sBrake ByteArray.empty = false := kinds_ne (eqS_iff.2 rfl) (by decide)
  have k5 : eqS sBrake sRest = false := kinds_ne (eqS_iff.2 rfl) (by decide)
  have eb : s.behindW m ⟨sBrake, w, 0, 0, k⟩ = s.brakedW m w k := by
    unfold Sta.behindW
    simp only
    rw [k0, k2, k3, eq_self]; rfl
  refine ⟨?_, eb⟩
  have e : s.allowedN m ⟨sBrake, w, 0, 0, k⟩ = firstT (s.ruleN m ⟨sBrake, w, 0, 0, k⟩) 7 0 := rfl
  rw [e, fire]
  · show (bif inK sBrake sRest ByteArray.empty && _ then (5 : Int) else 0) = 0
    rw [inK_eq, k5, k4]; rfl
  · show (inK sBrake sStart sRepair && _) = false
    rw [inK_eq, k0, k1]; rfl
  · show (inK sBrake sTick sStop && _) = false
    rw [inK_eq, k2, k3]; rfl
  · show (inK sBrake sBrake sRest && (!eqS s.mode sStop)) = false
    rw [h, eq_self sStop]; simp
  · show (inK sBrake sStart ByteArray.empty && _) = false
    rw [inK_eq, k0, k4]; rfl
  · show (inK sBrake sTick sBrake && s.rule6 ⟨sBrake, w, 0, 0, k⟩) = false
    have : s.rule6 ⟨sBrake, w, 0, 0, k⟩ = false := by
      unfold Sta.rule6
      rcases hk with rfl | rfl
      · rcases hst with e | e <;> rw [e] <;> simp
      · simp
    rw [this]; simp
  · show (inK sBrake sTick sBrake && s.rule7 m ⟨sBrake, w, 0, 0, k⟩ fun i => (s.behindW m ⟨sBrake, w, 0, 0, k⟩).num m i) = false
    have : (s.rule7 m ⟨sBrake, w, 0, 0, k⟩ fun i => (s.behindW m ⟨sBrake, w, 0, 0, k⟩).num m i) = false := by
      unfold Sta.rule7
      rw [eb, decide_eq_false (show ¬ (s.brakedW m w k).speed > m.lim by omega)]
      show (false || (eqS sBrake sTick && _)) = false
      rw [k2]; rfl
    rw [this]; simp

theorem stop_allowed {m : Mc} {s : Sta} (h : s.mode = sRun) : s.allowedN m (plainA sStop) = 0 ∧ s.behindW m (plainA sStop) = { s with mode := sStop, tor := 0 } := by
  have k0 : eqS sStop sStart = false := kinds_ne (eqS_iff.2 rfl) (by decide)
  have k1 : eqS sStop sRepair = false := kinds_ne (eqS_iff.2 rfl) (by decide)
  have k2 : eqS sStop sTick = false := kinds_ne (eqS_iff.2 rfl) (by decide)
  have k3 : eqS sStop sBrake = false := kinds_ne (eqS_iff.2 rfl) (by decide)
  have k4 : eqS sStop ByteArray.empty = false := kinds_ne (eqS_iff.2 rfl) (by decide)
  have k5 : eqS sStop sRest = false := kinds_ne (eqS_iff.2 rfl) (by decide)
  refine ⟨?_, ?_⟩
  · have e : s.allowedN m (plainA sStop) = firstT (s.ruleN m (plainA sStop)) 7 0 := rfl
    rw [e, fire]
    · show (bif inK sStop sRest ByteArray.empty && _ then (5 : Int) else 0) = 0
      rw [inK_eq, k5, k4]; rfl
    · show (inK sStop sStart sRepair && _) = false
      rw [inK_eq, k0, k1]; rfl
    · show (inK sStop sTick sStop && (!eqS s.mode sRun)) = false
      rw [h, eq_self sRun]; simp
    · show (inK sStop sBrake sRest && _) = false
      rw [inK_eq, k3, k5]; rfl
    · show (inK sStop sStart ByteArray.empty && _) = false
      rw [inK_eq, k0, k4]; rfl
    · show (inK sStop sTick sBrake && _) = false
      rw [inK_eq, k2, k3]; rfl
    · show (inK sStop sTick sBrake && _) = false
      rw [inK_eq, k2, k3]; rfl
  · unfold Sta.behindW
    show (bif eqS sStop sStart then _ else bif eqS sStop sTick then _ else bif eqS sStop sStop then _ else _) = _
    rw [k0, k2, eq_self sStop]; rfl

end Go.Proofs.YtkdlegfakefjgaaGreatDoor.Ix

/-
  Cp8: the run that 'propose' makes: what it keeps (under way: the peak one step on).
-/
namespace Go.Proofs.YtkdlegfakefjgaaGreatDoor.Ix
open Go.Proofs
set_option linter.unusedVariables false
set_option linter.unusedSimpArgs false

theorem most_succ {s t : Sta} {m : Mc} {k : Int} (h : ∀ n, t.stepW m k n = s.stepW m k (n + 1)) : ∀ n, t.most m k n ≤ s.most m k (n + 1)
  | 0 => by
    have e := congrArg Sta.speed (h 0)
    show t.speed ≤ maxW s.speed (s.stepW m k (0 + 1)).speed
    rw [maxW_eq]
    exact Int.le_trans (Int.le_of_eq e) (Int.le_max_right _ _)
  | n + 1 => by
    have ih := most_succ h n
    have e := congrArg Sta.speed (h (n + 1))
    show maxW (t.most m k n) (t.stepW m k (n + 1)).speed ≤ maxW (s.most m k (n + 1)) (s.stepW m k (n + 1 + 1)).speed
    rw [maxW_eq, maxW_eq]
    exact Int.max_le.2 ⟨Int.le_trans ih (Int.le_max_left _ _), Int.le_trans (Int.le_of_eq e) (Int.le_max_right _ _)⟩

theorem pk_shift {m : Mc} (hm : m.ok) {s : Sta} (hs : s.rng m) (hsp : s.speed ≤ 10000) {k : Int} (h1 : -1 ≤ k) (h2 : k ≤ 2) (h1' : (s.stepW m k 1).rng m) (hsp' : (s.stepW m k 1).speed ≤ 10000) : (s.stepW m k 1).pk m k ≤ s.pk m k := by
  rw [← pk_at hm h1' hsp' h1 h2 (Nat.le_max_left ((s.stepW m k 1).num m k) (s.num m k)), ← pk_at hm hs hsp h1 h2 (n := max ((s.stepW m k 1).num m k) (s.num m k) + 1) (by omega)]
  exact most_succ (fun n => (stepW_succ s m k n).symm) _

/-- A state with which a run goes on: without an error, safe while it runs or stops. -/
structure Sta.great (s : Sta) (m : Mc) : Prop where
  good : s.good m
  stop : s.mode = sStop → ∀ k : Nat, k < 3 → (s.stuck ≠ -1 ∧ s.stuck ≠ k) ∨ s.pk m k ≤ m.lim

theorem brake_keeps {m : Mc} (hm : m.ok) {s : Sta} (hs : s.inv m) (hp : ∀ k : Nat, k < 3 → (s.stuck ≠ -1 ∧ s.stuck ≠ k) ∨ s.pk m k ≤ m.lim) {w : Int} (hw : 0 ≤ w ∧ w ≤ m.wind) :
    (s.brakedW m w s.stuck).stuck = s.stuck ∧ (s.brakedW m w s.stuck).speed ≤ m.lim ∧ ∀ k : Nat, k < 3 → (s.stuck ≠ -1 ∧ s.stuck ≠ k) ∨ (s.brakedW m w s.stuck).pk m k ≤ m.lim := by
  have hl := hm.lim
  have hwi := hm.wind
  have hsl := hs.lim
  have hst := hs.stuck
  have e := braked_eq hm hs.rng w s.stuck (by omega)
  have est : (s.brakedW m w s.stuck).stuck = s.stuck := by
    rw [e]; show (if s.stuck = -1 then s.stuck else s.stuck) = s.stuck
    split <;> rfl
  have one : ∀ k : Nat, k < 3 → s.stuck = k ∨ s.stuck = -1 → s.pk m k ≤ m.lim → (s.brakedW m w s.stuck).speed ≤ m.lim ∧ (s.brakedW m w s.stuck).pk m k ≤ m.lim := fun k hk hkk hpk => by
    have hle : (s.brakedW m w s.stuck).le (s.stepW m k 1) := step_le hm hm rfl rfl hs.rng hs.rng s.le_refl (by omega) hkk
    have hr1 := step_rng hm hs.rng (by omega) w s.stuck (by omega)
    have hr2 : (s.stepW m k 1).rng m := step_rng hm hs.rng (by omega) m.wind k (by omega)
    have hp1 := stepW_pk hm hs.rng (by omega) (k := (k : Int)) (by omega) (by omega) 1
    have hsp : (s.brakedW m w s.stuck).speed ≤ (s.stepW m k 1).speed := hle.1
    have h1 := pk_shift hm hs.rng (by omega) (k := (k : Int)) (by omega) (by omega) hr2 (by omega)
    have h2 := pk_le hm hm rfl rfl (Int.le_refl _) (k := (k : Int)) (k' := (k : Int)) (by omega) (by omega) (by omega) (by omega) (.inl rfl) hr1 hr2 (by omega) (by omega) hle
    exact ⟨by omega, by omega⟩
  refine ⟨est, ?_, fun k hk => ?_⟩
  · by_cases h : s.stuck = -1
    · rcases hp 0 (by decide) with h2 | h2
      · exact absurd h h2.1
      · exact (one 0 (by decide) (.inr h) h2).1
    · have hk : s.stuck = ((s.stuck.toNat : Nat) : Int) := by omega
      rcases hp s.stuck.toNat (by omega) with h2 | h2
      · exact absurd hk h2.2
      · exact (one s.stuck.toNat (by omega) (.inl hk) h2).1
  · rcases hp k hk with h | h
    · exact .inl h
    · by_cases hkk : s.stuck = k ∨ s.stuck = -1
      · exact .inr (one k hk hkk h).2
      · left
        exact ⟨fun a => hkk (.inr a), fun a => hkk (.inl a)⟩
/-- A start, or a repair, in the mode idle. -/
theorem start_is {s : Sta} {m : Mc} (h : eqS s.mode sIdle = true) : s.allowedN m (plainA sStart) = bif s.ruleN m (plainA sStart) 3 then 4 else 0 := by
  have e : s.allowedN m (plainA sStart) = firstT (s.ruleN m (plainA sStart)) 7 0 := rfl
  have k0 : eqS sStart sTick = false := kinds_ne (eqS_iff.2 rfl) (by decide)
  have k1 : eqS sStart sBrake = false := kinds_ne (eqS_iff.2 rfl) (by decide)
  have k2 : eqS sStart sStop = false := kinds_ne (eqS_iff.2 rfl) (by decide)
  have k3 : eqS sStart sRest = false := kinds_ne (eqS_iff.2 rfl) (by decide)
  have k4 : eqS sStart ByteArray.empty = false := kinds_ne (eqS_iff.2 rfl) (by decide)
  have r0 : s.ruleN m (plainA sStart) 0 = false := by
    show (inK sStart sStart sRepair && (!eqS s.mode sIdle)) = false
    rw [h]; simp
  have r1 : s.ruleN m (plainA sStart) 1 = false := by
    show (inK sStart sTick sStop && _) = false
    rw [inK_eq, k0, k2]; rfl
  have r2 : s.ruleN m (plainA sStart) 2 = false := by
    show (inK sStart sBrake sRest && _) = false
    rw [inK_eq, k1, k3]; rfl
  have r4 : s.ruleN m (plainA sStart) 4 = false := by
    show (inK sStart sRest ByteArray.empty && _) = false
    rw [inK_eq, k3, k4]; rfl
  have r5 : s.ruleN m (plainA sStart) 5 = false := by
    show (inK sStart sTick sBrake && _) = false
    rw [inK_eq, k0, k1]; rfl
  have r6 : s.ruleN m (plainA sStart) 6 = false := by
    show (inK sStart sTick sBrake && _) = false
    rw [inK_eq, k0, k1]; rfl
  rw [e]
  simp only [firstT]
  rw [r0, r1, r2, r4, r5, r6]
  cases s.ruleN m (plainA sStart) 3 <;> rfl

theorem repair_is {s : Sta} {m : Mc} (h : eqS s.mode sIdle = true) : s.allowedN m (plainA sRepair) = 0 := by
  have e : s.allowedN m (plainA sRepair) = firstT (s.ruleN m (plainA sRepair)) 7 0 := rfl
  have k9 : eqS sRepair sStart = false := kinds_ne (eqS_iff.2 rfl) (by decide)
  have k0 : eqS sRepair sTick = false := kinds_ne (eqS_iff.2 rfl) (by decide)
  have k1 : eqS sRepair sBrake = false := kinds_ne (eqS_iff.2 rfl) (by decide)
  have k2 : eqS sRepair sStop = false := kinds_ne (eqS_iff.2 rfl) (by decide)
  have k3 : eqS sRepair sRest = false := kinds_ne (eqS_iff.2 rfl) (by decide)
  have k4 : eqS sRepair ByteArray.empty = false := kinds_ne (eqS_iff.2 rfl) (by decide)
  have r0 : s.ruleN m (plainA sRepair) 0 = false := by
    show (inK sRepair sStart sRepair && (!eqS s.mode sIdle)) = false
    rw [h]; simp
  have r1 : s.ruleN m (plainA sRepair) 1 = false := by
    show (inK sRepair sTick sStop && _) = false
    rw [inK_eq, k0, k2]; rfl
  have r2 : s.ruleN m (plainA sRepair) 2 = false := by
    show (inK sRepair sBrake sRest && _) = false
    rw [inK_eq, k1, k3]; rfl
  have r4 : s.ruleN m (plainA sRepair) 4 = false := by
    show (inK sRepair sRest ByteArray.empty && _) = false
    rw [inK_eq, k3, k4]; rfl
  have r5 : s.ruleN m (plainA sRepair) 5 = false := by
    show (inK sRepair sTick sBrake && _) = false
    rw [inK_eq, k0, k1]; rfl
  have r6 : s.ruleN m (plainA sRepair) 6 = false := by
    show (inK sRepair sTick sBrake && _) = false
    rw [inK_eq, k0, k1]; rfl
  have r3 : s.ruleN m (plainA sRepair) 3 = false := by
    show (inK sRepair sStart ByteArray.empty && _) = false
    rw [inK_eq, k9, k4]; rfl
  rw [e]
  simp only [firstT]
  rw [r0, r1, r2, r3, r4, r5, r6]; rfl

end Go.Proofs.YtkdlegfakefjgaaGreatDoor.Ix
