/- YtkdlegfakefjgaaGreatDoorM8 -/
import Derived.Test.YtkdlegfakefjgaaGreatDoorM7
import Derived.Lib.Builder
import Derived.MakeChecks
namespace Go.Proofs.YtkdlegfakefjgaaGreatDoor.Ix
set_option linter.unusedVariables false
def PcT (Q : St → Prop) (a' : Act) : Prop := ∃ (S' : St) (I' : Imm) (β' : Beta) (σ' : Nat → Sig), Q S' ∧ ∀ i, V I' β' (σ' 0) (look S'.tm i) (a'.tmps.getD i undef)
def Pc (nt : Nat) (c : Code) (Q : Ex → St → Prop) (a : Act) (w : World) (e : Exit) (a' : Act) (w' : World) : Prop :=
  (match e with
    | .normal => PcT (Q .normal) a'
    | .ret => PcT (Q .ret) a'
    | .exit id => PcT (Q (.exit id)) a'
    | _ => False) ∧ Go.RowKit.Below w.heap.size w w' ∧ a'.defers = [] ∧ nt ≤ a'.tmps.size ∧ ∀ i, isIn (wrs c) i = false → a'.tmps.getD i undef = a.tmps.getD i undef
theorem piece {Γ : Env} {C : Con} (hm : Γ.P.follows .mixedOrders = true) (hT : TOK Γ.P Γ.T) (hC : HC C Γ) (hds : Γ.ds = some []) {n : Nat} {c : Code} {tm : Tms} {Q : Ex → St → Prop} (hn : noRange c = true) (h : iwp C Γ c Q ⟨tm, [], []⟩)
    {a : Act} {w : World} {I : Imm} (him : ∀ x v, I x = some v → w.cell? x = some v) (hglo : ∀ g, D I (Γ.gl g) (.pointer (some ⟨g, 0, none⟩))) (hgz : Gsz Γ.gl w)
    (htm : ∀ i, V I (fun _ _ => none) noSig (look tm i) (a.tmps.getD i undef)) (hnt : Γ.nt ≤ a.tmps.size) (hd : a.defers = []) :
    c.wpIn (Fw none) n Γ.P (Pc Γ.nt c Q a w) a w := by
  let X : Nat → Prop := fun b => b < w.heap.size
  have r0 : Rel Γ ⟨tm, [], []⟩ a w I X (fun _ _ => none) fun _ => noSig := by
    refine ⟨htm, ⟨by rw [hd]; exact .nil _ _, fun d e => by rw [hds] at e; cases e; exact hd⟩, hnt, ⟨fun l d c hc => ?_, fun l d l' d' b h1 => (by cases h1), fun l d b h1 => (by cases h1), him, hglo, fun b hb => hb, hgz⟩, ⟨fun t g h => (by cases h), fun t t' g g' h => (by cases h)⟩⟩
    cases l with
    | zero => simp [upC, lookC] at hc
    | succ l => simp [upC, lookC] at hc
  refine wpIn_mono (iwp_sound_r hm hT hC none n c Q ⟨tm, [], []⟩ a w I X _ _ (isIn (wrs c)) hn (fun d hd => isIn_iff.2 hd) h r0) fun e a' w' hq => ?_
  have key : ∀ K : St → Prop, AftG Γ (Wn (isIn (wrs c))) K I X w (fun _ _ => none) (fun _ => noSig) a a' w' → PcT K a' ∧ Go.RowKit.Below w.heap.size w w' ∧ a'.defers = [] ∧ Γ.nt ≤ a'.tmps.size ∧ ∀ i, isIn (wrs c) i = false → a'.tmps.getD i undef = a.tmps.getD i undef := by
    rintro K ⟨S', I', X', β', σ', hk, r, _, ⟨he, _⟩, _, hs⟩
    exact ⟨⟨S', I', β', σ', hk, r.tm⟩, ⟨he.os, he.tape, he.output, he.size, fun k hk => he.keep k hk⟩, r.df.e [] hds, r.nt, hs⟩
  cases e with
  | normal => exact key _ hq
  | ret => exact key _ hq
  | exit id => exact key _ hq
  | goto l => exact hq.elim
  | panic c => exact hq.elim
  | outgrown => exact hq.elim
theorem rel_start {Γ : Env} (hds : Γ.ds = some []) {tm : Tms} {a : Act} {w : World} {I : Imm} (him : ∀ x v, I x = some v → w.cell? x = some v) (hglo : ∀ g, D I (Γ.gl g) (.pointer (some ⟨g, 0, none⟩))) (hgz : Gsz Γ.gl w)
    (htm : ∀ i, V I (fun _ _ => none) noSig (look tm i) (a.tmps.getD i undef)) (hnt : Γ.nt ≤ a.tmps.size) (hd : a.defers = []) :
    Rel Γ ⟨tm, [], []⟩ a w I (fun b => b < w.heap.size) (fun _ _ => none) fun _ => noSig := by
  refine ⟨htm, ⟨by rw [hd]; exact .nil _ _, fun d e => by rw [hds] at e; cases e; exact hd⟩, hnt, ⟨fun l d c hc => ?_, fun l d l' d' b h1 => (by cases h1), fun l d b h1 => (by cases h1), him, hglo, fun b hb => hb, hgz⟩, ⟨fun t g h => (by cases h), fun t t' g g' h => (by cases h)⟩⟩
  cases l with
  | zero => simp [upC, lookC] at hc
  | succ l => simp [upC, lookC] at hc
def nrm (K : St → Prop) : Ex → St → Prop
  | .normal, S => K S
  | _, _ => False
theorem piece_seq {Γ : Env} {C : Con} (hm : Γ.P.follows .mixedOrders = true) (hT : TOK Γ.P Γ.T) (hC : HC C Γ) (hds : Γ.ds = some []) {n : Nat} {c d : Code} {tm : Tms} {K : St → Prop} {R : Exit → Act → World → Prop} (hn : noRange c = true) (h : iwp C Γ c (nrm K) ⟨tm, [], []⟩)
    {a : Act} {w : World} {I : Imm} (him : ∀ x v, I x = some v → w.cell? x = some v) (hglo : ∀ g, D I (Γ.gl g) (.pointer (some ⟨g, 0, none⟩))) (hgz : Gsz Γ.gl w)
    (htm : ∀ i, V I (fun _ _ => none) noSig (look tm i) (a.tmps.getD i undef)) (hnt : Γ.nt ≤ a.tmps.size) (hd : a.defers = [])
    (hk : ∀ a' w', PcT K a' → Go.RowKit.Below w.heap.size w w' → a'.defers = [] → Γ.nt ≤ a'.tmps.size → (∀ i, isIn (wrs c) i = false → a'.tmps.getD i undef = a.tmps.getD i undef) → d.wpIn (Fw none) n Γ.P R a' w') :
    (Code.seq c d).wpIn (Fw none) n Γ.P R a w := by
  refine wpIn_seq (wpIn_mono (piece hm hT hC hds hn h him hglo hgz htm hnt hd) fun e a' w' hq => ?_)
  obtain ⟨h1, h2, h3, h4, h5⟩ := hq
  cases e with
  | normal => exact hk a' w' h1 h2 h3 h4 h5
  | ret => obtain ⟨_, _, _, _, h, _⟩ := h1; exact h.elim
  | exit id => obtain ⟨_, _, _, _, h, _⟩ := h1; exact h.elim
  | goto l => exact h1.elim
  | panic c => exact h1.elim
  | outgrown => exact h1.elim
theorem ops_part {Γ : Env} {C : Con} (hT : TOK Γ.P Γ.T) (hC : HC C Γ) {n : Nat} {ops : Array Oper} {K : St → Prop} {Q : Exit → Act → World → Prop} {rest : List Nat} {w : World} {I : Imm} {X : Nat → Prop} {a : Act} {wr : Nat → Bool}
    (hF : ∀ a' w' S' I' X' β' σ', K S' → Rel Γ S' a' w' I' X' β' σ' → (Wn wr).E w I X w' I' X' → Same (Wn wr) a a' → wpOpsIn (Fw none) n Γ.P ops Q rest a' w') :
    ∀ (pre : List Oper) (k : Nat), (∀ (j : Nat) o, pre[j]? = some o → ops[k + j]? = some o) → (∀ d ∈ dsts pre, wr d = true) → ∀ (S' : St) (a' : Act) (w' : World) (I' : Imm) (X' : Nat → Prop) (β' : Beta) (σ' : Nat → Sig),
      iops C Γ ops.toList pre K S' → Rel Γ S' a' w' I' X' β' σ' → (Wn wr).E w I X w' I' X' → Same (Wn wr) a a' →
      wpOpsIn (Fw none) n Γ.P ops Q (List.range' k pre.length ++ rest) a' w' := by
  intro pre
  induction pre with
  | nil => exact fun k _ _ S' a' w' I' X' β' σ' h hr he hs => hF a' w' S' I' X' β' σ' h hr he hs
  | cons o pre ih =>
    intro k hk hw S' a' w' I' X' β' σ' h hr he hs
    have h0 : ops[k]? = some o := by have := hk 0 o rfl; simpa using this
    rw [iops_cons] at h
    have hwo : ∀ d, o.dst = some d → wr d = true := fun d hd => hw d (dsts_mem (List.mem_cons_self ..) hd)
    have h1 := iop1_soundG (W := Wn wr) (opOK_n wr hT hC none n) (ops := ops) o hwo h hr trivial Q
    have next : ∀ a2 w2, AftG Γ (Wn wr) (fun S' => iops C Γ ops.toList pre K S') I' X' w' β' σ' a' a2 w2 → wpOpsIn (Fw none) n Γ.P ops Q (List.range' (k + 1) pre.length ++ rest) a2 w2 := by
      rintro a2 w2 ⟨S2, I2, X2, β2, σ2, k1, k2, _, k4, _, k6⟩
      refine ih (k + 1) (fun j x hx => by have := hk (j + 1) x hx; rw [← this]; congr 1; omega) (fun d hd => hw d ?_) S2 a2 w2 I2 X2 β2 σ2 k1 k2 ((Wn wr).trans he k4) (hs.trans k6)
      unfold dsts
      split
      · exact List.mem_cons_of_mem _ hd
      · exact hd
    simp only [List.length_cons, List.range'_succ, List.cons_append, wpOpsIn, h0]
    split
    · rename_i hw
      rw [if_pos hw] at h1
      exact Oper.wpIn_mono next h1
    · rename_i hw
      rw [if_neg hw] at h1
      exact ⟨fun _ _ => trivial, next _ _ h1⟩
theorem round5 {Γ : Env} {C : Con} (hm : Γ.P.follows .mixedOrders = true) (hT : TOK Γ.P Γ.T) (hC : HC C Γ) (hds : Γ.ds = some []) {n : Nat} {c1 c2 c3 c4 : Code} {id : Nat} {ops : Array Oper} (hops : ops.toList ≠ []) {tm : Tms} {K : St → Prop} {R : Exit → Act → World → Prop}
    (hn1 : noRange c1 = true) (hn2 : noRange c2 = true) (hn3 : noRange c3 = true) (hn4 : noRange c4 = true)
    (h : iwp C Γ c1 (nrm fun S => iwp C Γ c2 (nrm fun S => iwp C Γ c3 (nrm fun S => iwp C Γ c4 (nrm fun S => iops C Γ ops.toList ops.toList.dropLast K S) S) S) S) ⟨tm, [], []⟩)
    {a : Act} {w : World} {I : Imm} (him : ∀ x v, I x = some v → w.cell? x = some v) (hglo : ∀ g, D I (Γ.gl g) (.pointer (some ⟨g, 0, none⟩))) (hgz : Gsz Γ.gl w)
    (htm : ∀ i, V I (fun _ _ => none) noSig (look tm i) (a.tmps.getD i undef)) (hnt : Γ.nt ≤ a.tmps.size) (hd : a.defers = [])
    (hk : ∀ a' w', PcT K a' → Go.RowKit.Below w.heap.size w w' → a'.defers = [] → Γ.nt ≤ a'.tmps.size → (∀ i, isIn (wrs c1 ++ (wrs c2 ++ (wrs c3 ++ (wrs c4 ++ dsts ops.toList.dropLast)))) i = false → a'.tmps.getD i undef = a.tmps.getD i undef) → wpOpsIn (Fw none) n Γ.P ops R [ops.toList.dropLast.length] a' w') :
    (Code.seq c1 (.seq c2 (.seq c3 (.seq c4 (.region id ops false))))).wpIn (Fw none) n Γ.P R a w := by
  obtain ⟨o, hops⟩ : ∃ o, ops.toList = ops.toList.dropLast ++ [o] := ⟨_, (List.dropLast_concat_getLast hops).symm⟩
  generalize hpre : ops.toList.dropLast = pre at *
  have r0 := rel_start hds him hglo hgz htm hnt hd
  let wr : Nat → Bool := isIn (wrs c1 ++ (wrs c2 ++ (wrs c3 ++ (wrs c4 ++ dsts pre))))
  let X : Nat → Prop := fun b => b < w.heap.size
  have one : ∀ {c d : Code} {K : St → Prop} (_ : noRange c = true) (_ : ∀ d ∈ wrs c, wr d = true) {S : St} {a1 : Act} {w1 : World} {I1 : Imm} {X1 : Nat → Prop} {β1 : Beta} {σ1 : Nat → Sig}, iwp C Γ c (nrm K) S → Rel Γ S a1 w1 I1 X1 β1 σ1 → (Wn wr).E w I X w1 I1 X1 → Same (Wn wr) a a1 →
      (∀ a' w' S' I' X' β' σ', K S' → Rel Γ S' a' w' I' X' β' σ' → (Wn wr).E w I X w' I' X' → Same (Wn wr) a a' → d.wpIn (Fw none) n Γ.P R a' w') → (Code.seq c d).wpIn (Fw none) n Γ.P R a1 w1 := by
    intro c d K hn hw S a1 w1 I1 X1 β1 σ1 h hr he hs hk
    refine wpIn_seq (wpIn_mono (iwp_sound_r hm hT hC none n c (nrm K) S a1 w1 I1 X1 β1 σ1 wr hn hw h hr) fun e a' w' hq => ?_)
    cases e with
    | normal =>
      obtain ⟨S', I', X', β', σ', k1, k2, _, k4, _, k6⟩ := hq
      exact hk a' w' S' I' X' β' σ' k1 k2 ((Wn wr).trans he k4) (hs.trans k6)
    | ret => obtain ⟨_, _, _, _, _, h, _⟩ := hq; exact h.elim
    | exit id => obtain ⟨_, _, _, _, _, h, _⟩ := hq; exact h.elim
    | goto l => exact hq.elim
    | panic c => exact hq.elim
    | outgrown => exact hq.elim
  have w1 : ∀ d ∈ wrs c1, wr d = true := fun d hd => isIn_iff.2 (by simp [hd])
  have w2 : ∀ d ∈ wrs c2, wr d = true := fun d hd => isIn_iff.2 (by simp [hd])
  have w3 : ∀ d ∈ wrs c3, wr d = true := fun d hd => isIn_iff.2 (by simp [hd])
  have w4 : ∀ d ∈ wrs c4, wr d = true := fun d hd => isIn_iff.2 (by simp [hd])
  have w5 : ∀ d ∈ dsts pre, wr d = true := fun d hd => isIn_iff.2 (by simp [hd])
  refine one hn1 w1 h r0 ((Wn wr).refl _ _ _) (Same.refl _ _) fun a' w' S' I' X' β' σ' h hr he hs => ?_
  refine one hn2 w2 h hr he hs fun a' w' S' I' X' β' σ' h hr he hs => ?_
  refine one hn3 w3 h hr he hs fun a' w' S' I' X' β' σ' h hr he hs => ?_
  refine one hn4 w4 h hr he hs fun a' w' S' I' X' β' σ' h hr he hs => ?_
  refine wpIn_region ?_
  have hsz : ops.size = pre.length + 1 := by rw [← Array.length_toList, hops]; simp
  have e : List.range ops.size = List.range' 0 pre.length ++ [pre.length] := by
    rw [hsz, List.range_succ, List.range_eq_range']
  rw [e]
  refine ops_part hT hC (w := w) (I := I) (X := X) (a := a) (wr := wr) ?_ pre 0 (fun j x hx => ?_) w5 S' a' w' I' X' β' σ' h hr he hs
  · rintro a' w' S' I' X' β' σ' hk' r ⟨he, _⟩ hs
    exact hk a' w' ⟨S', I', β', σ', hk', r.tm⟩ ⟨he.os, he.tape, he.output, he.size, fun k hk => he.keep k hk⟩ (r.df.e [] hds) r.nt hs
  · rw [Nat.zero_add, ← Array.getElem?_toList, hops, List.getElem?_append_left (by
      rcases Nat.lt_or_ge j pre.length with h | h
      · exact h
      · rw [List.getElem?_eq_none h] at hx; cases hx)]
    exact hx
theorem builder_below {T e : TypeId} {B b : Nat} {bs : List Value} {w w' : World} (h : Go.Lib.IsBuilder T e B b bs w) (k : Go.RowKit.Below w.heap.size w w') : Go.Lib.IsBuilder T e B b bs w' := by
  have key : ∀ p, Go.Lib.BuilderAt T e B b p bs w → Go.Lib.BuilderAt T e B b p bs w' := by
    rintro p ⟨hB, v, hb, hown, hne⟩
    refine ⟨hB, v, by rw [k.block b (heap_lt hb)]; exact hb, ?_, hne⟩
    obtain ⟨h1, h2⟩ := hown
    refine ⟨h1, h2.elim .inl ?_⟩
    rintro ⟨g, cap, cur, e1, e2, e3, e4⟩
    exact .inr ⟨g, cap, cur, e1, e2, by rw [k.block g (heap_lt e3)]; exact e3, e4⟩
  exact h.elim (fun x => .inl (key _ x)) fun x => .inr (key _ x)
theorem op_val {P : Program} {ops : Array Oper} {Q : Exit → Act → World → Prop} {n i : Nat} {rest : List Nat} {o : Oper} {a : Act} {w w2 : World} {v : Value} (h0 : ops[i]? = some o) (hg : o.guard = none) (hd : ∀ c, o.op ≠ .defer c)
    (h : (execOp a.eval o).run P w = .ok (.value v) w2) (hk : wpOpsIn (Fw none) n P ops Q rest (a.put o.dst v) w2) : wpOpsIn (Fw none) n P ops Q (i :: rest) a w := by
  simp only [wpOpsIn, h0]
  rw [if_pos (by simp [Region.wanted, hg])]
  exact wpIn_of_wp hd (wp_val h hk)
theorem op_call {P : Program} {ops : Array Oper} {Q : Exit → Act → World → Prop} {n i : Nat} {rest : List Nat} {o : Oper} {a : Act} {w : World} {c : Call} {f : Nat} {fn : Func} {cd : Code} (h0 : ops[i]? = some o) (hg : o.guard = none) (ho : o.op = .call c) (hc : c.callee = .value (.func f)) (hf : P.funcs[f]? = some fn) (hb : fn.body = some cd) (hn : (fn.name == "runtime.NumGoroutine") = false)
    (h : Calls P f (c.args.map a.eval) w fun e w2 => ∃ v, e = .returned v ∧ wpOpsIn (Fw none) n P ops Q rest (a.put o.dst v) w2) : wpOpsIn (Fw none) n P ops Q (i :: rest) a w := by
  simp only [wpOpsIn, h0]
  rw [if_pos (by simp [Region.wanted, hg])]
  refine wpIn_of_wp (fun c e => by rw [ho] at e; cases e) ?_
  unfold Oper.wp
  have hrun : (execOp a.eval o).run P w = .ok (.enter f (c.args.map a.eval)) w := by
    have hval : a.eval (.func f) = .func (.func f) #[] #[] := rfl
    simp only [execOp, ho, resolve, hc, hval, Deferred.ofValue, Sem.run_bind, Sem.run_pure, Result.andThen_ok, invoke, callFunc, run_program, hf, hn, hb, Option.isNone]
    simp
  rw [hrun]
  refine h.mono ?_
  rintro e w2 ⟨v, rfl, hk⟩
  exact hk
theorem put_same {a : Act} {d : Nat} {v : Value} (h : d < a.tmps.size) : (a.put (some d) v).tmps.getD d undef = v := by
  simp only [Act.put, Array.getD_eq_getD_getElem?]
  rw [Array.getElem?_setIfInBounds_self_of_lt h]; rfl
theorem put_other {a : Act} {d i : Nat} {v : Value} (h : d ≠ i) : (a.put (some d) v).tmps.getD i undef = a.tmps.getD i undef := by
  simp only [Act.put, Array.getD_eq_getD_getElem?]
  rw [Array.getElem?_setIfInBounds_ne h]
theorem put_size {a : Act} {d : Option Nat} {v : Value} : (a.put d v).tmps.size = a.tmps.size := by
  cases d <;> simp [Act.put]
end Go.Proofs.YtkdlegfakefjgaaGreatDoor.Ix

namespace Go.Proofs.YtkdlegfakefjgaaGreatDoor.Ix
open Go.Proofs
set_option maxRecDepth 100000
set_option linter.unusedVariables false
set_option linter.unusedSimpArgs false
variable {gl : Nat → IV}
noncomputable abbrev Γp (gl : Nat → IV) : Env := ⟨prog, T, gl, 48, Vis prog gl, none, some [], []⟩
set_option maxHeartbeats 400000 in
theorem c_PrintOk (up : List Ces) (hk : gl g_control_kinds = kindsI) (hg : gl g_internal_strconv_uint64pow10 = powI) (n : Nat) (hn : n ≤ 10000000) (l : Nat → Ac) (h0 : actsE n l = 0) :
    Cs gl n_control_Print up [.lst none 5 n fun i => (l i).cs] (.tup [.str (bytesS (actsS l n)), .int .i64 0]) up := by
  refine comp_of_below h_control_Print rfl rfl fun vals w0 I X β σ m hlen ha => ?_
  obtain ⟨v0, rfl⟩ := one_arg hlen
  obtain ⟨hn2, hok⟩ := actsE_ok h0
  have hv0 : D I (.lst none 5 n fun i => (l i).cs) v0 := by
    have h := ha 0 _ rfl
    cases h with
    | data h => exact h
  refine (callsIn_wide (n := 1)).1 (callsIn_of_wp_marks (F := Fw none) h_control_Print rfl trivial ?_)
  have P := fun {c d : Code} {tm : Tms} {K : St → Prop} {R : Exit → Act → World → Prop} (hnr : noRange c = true) (h : iwp (Cs gl) (Γp gl) c (nrm K) ⟨tm, [], []⟩) {a : Act} {w : World} (hb : Go.RowKit.Below w0.heap.size w0 w)
    (htm : ∀ i, V I (fun _ _ => none) noSig (look tm i) (a.tmps.getD i undef)) (hnt : 48 ≤ a.tmps.size) (hd : a.defers = []) hk =>
    piece_seq (n := 1) (d := d) (R := R) (Γ := Γp gl) (C := Cs gl) mixed0 tok0 ⟨⟨fun _ _ _ _ _ h => h, fun _ _ _ _ h => h⟩, rfl⟩ rfl hnr h (m.below hb).im m.glo (m.below hb).gz htm hnt hd hk
  refine P (K := fun _ => True) (tm := []) ?_ ?_ (.refl _ _) (fun i => .data (.dead _)) ?_ ?_ ?_
  · rfl
  · conv => whnf
    trivial
  · show 48 ≤ (#[v0] ++ Array.replicate 47 undef).size
    simp
  · rfl
  intro a1 w1 _ b1 d1 z1 f1
  have g0 : (#[v0] ++ Array.replicate (48 - #[v0].size) undef).getD 0 undef = v0 := by simp [Array.getD_eq_getD_getElem?]
  have g1 : a1.tmps.getD 0 undef = v0 := (f1 0 (by rfl)).trans g0
  have hp := fun up => c_printable (gl := gl) up hk n hn l
  rw [h0] at hp
  refine P (K := fun _ => True) (tm := [(0, .lst none 5 n fun i => (l i).cs)]) ?_ ?_ b1 ?_ z1 d1 ?_
  · rfl
  · conv => whnf
    repeat first
      | (refine DRAW.seek ?_; repeat (first | refine TRYD.take ?_ | refine TRYD.next ?_); conv => whnf)
      | (refine HOLD.mk (by first | exact trivial | exact ⟨⟨rfl, rfl⟩, trivial⟩ | exact ⟨⟨rfl, rfl⟩, ⟨rfl, rfl⟩, trivial⟩) ?_; (conv => whnf))
      | (refine CALL0.by (hp ..) rfl ?_; conv => whnf)
      | (refine CALLQ.mk _ _ _ (leL_refl _) (hp ..) rfl ?_; conv => whnf)
    trivial
  · intro i
    rw [look_cons]
    split
    · rename_i e; subst e; rw [g1]; exact .data hv0
    · exact .data (.dead _)
  intro a2 w2 _ b2 d2 z2 f2
  have g2 : a2.tmps.getD 0 undef = v0 := (f2 0 (by rfl)).trans g1
  replace b2 := b1.trans (b2.mono b1.size)
  clear f1 f2 g1 z1 d1
  refine wpIn_seq (wpIn_region ?_)
  refine op_val (o := { dst := some 5, op := Op.alloc 168, type := 0, pos := "act.go:237", after := #[], guard := none }) rfl rfl (fun c e => by cases e) (v := .pointer (some ⟨w2.heap.size, 0, none⟩)) (w2 := w2.alloc (.cells #[.pointer none, .slice none 0 0] 168)) ?_ ?_
  · have hz : (prog.info? 168).map (fun i => i.zero) = some (some (.agg #[.pointer none, .slice none 0 0])) := by kernel_rfl
    cases hi : prog.info? 168 with
    | none => rw [hi] at hz; cases hz
    | some inf =>
      rw [hi] at hz
      have hz : inf.zero = some (.agg #[.pointer none, .slice none 0 0]) := by simpa using hz
      show (execOp a2.eval { dst := some 5, op := Op.alloc 168, type := 0, pos := "act.go:237", after := #[], guard := none }).run prog w2 = _
      simp [execOp, Instr.alloc, zeroValue, typeInfo, hi, hz, newVar, newRow, Value.cells]
  have hbld : Go.Lib.IsBuilder 168 5 w0.heap.size w2.heap.size [] (w2.alloc (.cells #[.pointer none, .slice none 0 0] 168)) :=
    .inl ⟨b2.size, .slice none 0 0, World.alloc_heap_new _ _, ⟨rfl, .inl ⟨rfl, rfl⟩⟩, by simp [Value.ownBlock]⟩
  have b3 := b2.alloc b2.size (.cells #[.pointer none, .slice none 0 0] 168)
  generalize hb : w2.heap.size = b at hbld
  generalize w2.alloc (.cells #[.pointer none, .slice none 0 0] 168) = w3 at hbld b3
  have hg3 : (a2.put (some 5) (.pointer (some ⟨b, 0, none⟩))).tmps.getD 0 undef = v0 := (put_other (by decide)).trans g2
  have hz3 : 48 ≤ (a2.put (some 5) (.pointer (some ⟨b, 0, none⟩))).tmps.size := by rw [put_size]; exact z2
  have hd3 : (a2.put (some 5) (.pointer (some ⟨b, 0, none⟩))).defers = [] := d2
  have hp3 : (a2.put (some 5) (.pointer (some ⟨b, 0, none⟩))).tmps.getD 5 undef = .pointer (some ⟨b, 0, none⟩) := put_same (Nat.lt_of_lt_of_le (show 5 < 48 by decide) z2)
  show Code.wpIn (Fw none) 1 prog _ _ (a2.put (some 5) (.pointer (some ⟨b, 0, none⟩))) w3
  generalize a2.put (some 5) (.pointer (some ⟨b, 0, none⟩)) = a3 at hg3 hz3 hd3 hp3
  clear b2 d2 z2 g2
  let LI : Nat → Act → World → Prop := fun k a w => Go.RowKit.Below w0.heap.size w0 w ∧ a.defers = [] ∧ 48 ≤ a.tmps.size ∧ a.tmps.getD 15 undef = v0 ∧ a.tmps.getD 16 undef = .int .i64 n ∧ a.tmps.getD 17 undef = .int .i64 k ∧
    a.tmps.getD 5 undef = .pointer (some ⟨b, 0, none⟩) ∧ Go.Lib.IsBuilder 168 5 w0.heap.size b (Go.Lib.byteCells (actsS l k)) w
  obtain ⟨p0, c0, hvs⟩ : ∃ p c, v0 = .slice p n c := by
    cases hv0 with
    | lstN => exact ⟨_, _, rfl⟩
    | lst => exact ⟨_, _, rfl⟩
  refine wpIn_seq (wpIn_seq (wpIn_region ?_))
  refine op_val rfl rfl (fun c e => by cases e) (v := v0) (w2 := w3) ?_ ?_
  · show Result.ok (Next.value (a3.tmps.getD 0 undef)) w3 = _
    rw [hg3]
  have hl : (a3.put (some 15) v0).tmps.getD 15 undef = v0 := put_same (Nat.lt_of_lt_of_le (by decide) hz3)
  refine op_val rfl rfl (fun c e => by cases e) (v := .int .i64 n) (w2 := w3) ?_ ?_
  · have hu : prog.underlying 71 = some (.slice 50) := by kernel_rfl
    have hlt : 15 < a3.tmps.size := Nat.lt_of_lt_of_le (by decide) hz3
    simp [execOp, resolve, invoke, go_sem, hlt, hvs, Builtin.len_, run_underlying hu, goInt]
  refine op_val rfl rfl (fun c e => by cases e) (v := .int .i64 0) (w2 := w3) rfl ?_
  simp only [wpOpsIn]
  show Code.wpIn (Fw none) 1 prog _ _ (((a3.put (some 15) v0).put (some 16) (.int .i64 n)).put (some 17) (.int .i64 0)) w3
  have hLI : LI 0 (((a3.put (some 15) v0).put (some 16) (.int .i64 n)).put (some 17) (.int .i64 0)) w3 := by
    refine ⟨b3, hd3, by simp only [put_size]; exact hz3, ?_, ?_, put_same (by simp only [put_size]; omega), ?_, hbld⟩
    · rw [put_other (by decide), put_other (by decide)]; exact hl
    · rw [put_other (by decide)]; exact put_same (by simp only [put_size]; omega)
    · rw [put_other (by decide), put_other (by decide), put_other (by decide)]; exact hp3
  refine wpIn_block (wpIn_loop_from (α := {k : Nat // k ≤ n}) (fun k => LI k.1) (fun k => n - k.1) ⟨0, Nat.zero_le _⟩ hLI ?_)
  clear hLI hl hp3 hd3 hz3 hg3 hbld b3
  rintro ⟨k, hkn⟩ a w ⟨b1, d1, z1, q15, q16, q17, q5, hB⟩
  refine P (K := fun S => S = ⟨[(18, .bool (decide ((k : Int) < n))), (17, .int .i64 k), (16, .int .i64 n)], [], []⟩) (tm := [(17, .int .i64 k), (16, .int .i64 n)]) ?_ ?_ b1 ?_ z1 d1 ?_
  · rfl
  · conv => whnf
  · intro i
    rw [look_cons]
    split
    · rename_i e; subst e; rw [q17]; exact .data (.int _ _)
    · rw [look_cons]
      split
      · rename_i e; subst e; rw [q16]; exact .data (.int _ _)
      · exact .data (.dead _)
  rintro a1 w1 ⟨S', I', β', σ', rfl, ht⟩ b2 d2 z2 f2
  have t18 : a1.tmps.getD 18 undef = .bool (decide ((k : Int) < n)) := (ht 18).bool_inv
  replace q15 := (f2 15 (by rfl)).trans q15
  replace q16 := (f2 16 (by rfl)).trans q16
  replace q17 := (f2 17 (by rfl)).trans q17
  replace q5 := (f2 5 (by rfl)).trans q5
  replace hB := builder_below hB b2
  replace b2 := b1.trans (b2.mono b1.size)
  clear ht f2 b1 d1 z1 I' β' σ'
  by_cases hlt : k < n
  · rw [decide_eq_true (by omega : (k : Int) < n)] at t18
    refine wpIn_seq (wpIn_cond t18 (wpIn_skip ?_))
    show Code.wpIn (Fw none) 1 prog _ _ a1 w1
    refine wpIn_seq (wpIn_block ?_)
    refine round5 (Γ := Γp gl) (C := Cs gl) (K := fun S => look S.tm 44 = .str (bytesS (l k).line)) (tm := [(17, .int .i64 k), (16, .int .i64 n), (15, .lst none 5 n fun i => (l i).cs)]) mixed0 tok0 ⟨⟨fun _ _ _ _ _ h => h, fun _ _ _ _ h => h⟩, rfl⟩ rfl ?_ ?_ ?_ ?_ ?_ ?_ (m.below b2).im m.glo (m.below b2).gz ?_ z2 d2 ?_
    · exact List.cons_ne_nil _ _
    · rfl
    · rfl
    · rfl
    · rfl
    · have q : decide ((k : Int) < n) = true := decide_eq_true (by omega)
      have hA := hok k hlt
      have hI := fun (up : List Ces) (x : Int) (h : 0 ≤ x ∧ x ≤ 100) => c_Itoa (gl := gl) up hg x ⟨by omega, by omega⟩
      have hM : ∀ up, Cs gl n_control_mapped_int_string up [.lst none 1 3 (litF 1 [.int .i64 (l k).wind, .int .i64 (l k).pitch, .int .i64 (l k).tor]), .fn n_strconv_Itoa [] []] (.lst (some 19) 1 3 fun i => [.str (bytesS (Go.Lib.itoa ([(l k).wind, (l k).pitch, (l k).tor].getD i 0)))]) up := fun up => by
        refine Comp.le ?_ (c_mappedS (gl := gl) up 3 (by decide) (fun i => [(l k).wind, (l k).pitch, (l k).tor].getD i 0) (fun i => bytesS (Go.Lib.itoa ([(l k).wind, (l k).pitch, (l k).tor].getD i 0))) n_strconv_Itoa fun up i hi => hI up _ ?_)
        · refine ⟨⟨.inl rfl, rfl, rfl, fun i hi => ?_⟩, leV_refl _, trivial⟩
          match i, hi with
          | 0, _ => rfl
          | 1, _ => rfl
          | 2, _ => rfl
        · match i, hi with
          | 0, _ => exact hA.wind
          | 1, _ => exact hA.pitch
          | 2, _ => exact hA.tor
      have hJ : ∀ up, Cs gl n_strings_Join up [.lst none 1 5 fun i => [.str (bytesS ((l k).words.getD i []))], .str (bytesS [32])] (.str (bytesS (Go.Lib.join (l k).words [32]))) up := fun up => by
        have := c_Join (gl := gl) up 5 (fun i => [.str (bytesS ((l k).words.getD i []))]) (fun i => (l k).words.getD i []) [32] (fun i hi => rfl) (by decide) (by
          show (Go.Lib.join (l k).words [32]).length ≤ _
          have := line_len hA
          rw [line_eq, List.length_append] at this
          omega)
        exact this
      have hlen : (Go.Lib.join (l k).words [32]).length ≤ 110 := by
        have := line_len hA
        rw [line_eq, List.length_append] at this
        omega
      have hlen2 : decide ((bytesS (Go.Lib.join (l k).words [32])).size + (bytesS [10]).size ≤ 1099511627776) = true := decide_eq_true (by rw [bytesS_size, bytesS_size]; simp only [List.length_cons, List.length_nil]; omega)
      have hI4 := fun up => hI up (l k).stuck
      cases qs : ((l k).stuck != -1) with
      | true =>
        have hst : 0 ≤ (l k).stuck ∧ (l k).stuck ≤ 100 := by
          have := hA.stuck
          have : (l k).stuck ≠ -1 := by simpa using qs
          omega
        have hI4 := fun up => hI up (l k).stuck hst
        have hb : (l k).blade = Go.Lib.itoa (l k).stuck := by unfold Ac.blade; rw [qs]; rfl
        conv => whnf
        split
        rotate_left
        · rename_i h
          exact Bool.noConfusion ((q).symm.trans h)
        rename_i hN
        clear hN
        conv => whnf
        repeat first
          | (refine DRAW.seek ?_; repeat (first | refine TRYD.take ?_ | refine TRYD.next ?_); conv => whnf)
          | (refine HOLD.mk (by first | exact trivial | exact ⟨⟨rfl, rfl⟩, trivial⟩ | exact ⟨⟨rfl, rfl⟩, ⟨rfl, rfl⟩, trivial⟩) ?_; (conv => whnf))
          | (refine CALL0.by (hM ..) rfl ?_; conv => whnf)
          | (refine CALLQ.mk _ _ _ (leL_refl _) (hM ..) rfl ?_; conv => whnf)
        split
        rotate_left
        · rename_i h
          exact Bool.noConfusion ((qs).symm.trans h)
        rename_i hN
        clear hN
        conv => whnf
        repeat first
          | (refine DRAW.seek ?_; repeat (first | refine TRYD.take ?_ | refine TRYD.next ?_); conv => whnf)
          | (refine HOLD.mk (by first | exact trivial | exact ⟨⟨rfl, rfl⟩, trivial⟩ | exact ⟨⟨rfl, rfl⟩, ⟨rfl, rfl⟩, trivial⟩) ?_; (conv => whnf))
          | (refine CALL0.by (hI4 ..) rfl ?_; conv => whnf)
          | (refine CALLQ.mk _ _ _ (leL_refl _) (hI4 ..) rfl ?_; conv => whnf)
        refine .mk _ _ _ _ _ ?_ (hJ _) rfl ?_
        · refine ⟨⟨.inl rfl, rfl, rfl, fun i hi => ?_⟩, leV_refl _, trivial⟩
          match i, hi with
          | 0, _ => show [IV.str (l k).kind] = [.str (bytesS (l k).kind.data.toList)]; rw [bytesS_mk]
          | 1, _ => rfl
          | 2, _ => rfl
          | 3, _ => rfl
          | 4, _ => show [IV.str _] = [.str (bytesS (l k).blade)]; rw [hb]
        conv => whnf
        split
        rotate_left
        · rename_i h
          exact Bool.noConfusion ((hlen2).symm.trans h)
        rename_i hN
        clear hN
        conv => whnf
        show IV.str (bytesS (Go.Lib.join (l k).words [32]) ++ bytesS [10]) = .str (bytesS (l k).line)
        rw [bytesS_append, line_eq]
      | false =>
        have hb : (l k).blade = [45] := by unfold Ac.blade; rw [qs]; rfl
        conv => whnf
        split
        rotate_left
        · rename_i h
          exact Bool.noConfusion ((q).symm.trans h)
        rename_i hN
        clear hN
        conv => whnf
        repeat first
          | (refine DRAW.seek ?_; repeat (first | refine TRYD.take ?_ | refine TRYD.next ?_); conv => whnf)
          | (refine HOLD.mk (by first | exact trivial | exact ⟨⟨rfl, rfl⟩, trivial⟩ | exact ⟨⟨rfl, rfl⟩, ⟨rfl, rfl⟩, trivial⟩) ?_; (conv => whnf))
          | (refine CALL0.by (hM ..) rfl ?_; conv => whnf)
          | (refine CALLQ.mk _ _ _ (leL_refl _) (hM ..) rfl ?_; conv => whnf)
        split
        · rename_i h
          exact Bool.noConfusion ((qs).symm.trans h)
        rename_i hN
        clear hN
        conv => whnf
        refine .mk _ _ _ _ _ ?_ (hJ _) rfl ?_
        · refine ⟨⟨.inl rfl, rfl, rfl, fun i hi => ?_⟩, leV_refl _, trivial⟩
          match i, hi with
          | 0, _ => show [IV.str (l k).kind] = [.str (bytesS (l k).kind.data.toList)]; rw [bytesS_mk]
          | 1, _ => rfl
          | 2, _ => rfl
          | 3, _ => rfl
          | 4, _ => show [IV.str _] = [.str (bytesS (l k).blade)]; rw [hb]
        conv => whnf
        split
        rotate_left
        · rename_i h
          exact Bool.noConfusion ((hlen2).symm.trans h)
        rename_i hN
        clear hN
        conv => whnf
        show IV.str (bytesS (Go.Lib.join (l k).words [32]) ++ bytesS [10]) = .str (bytesS (l k).line)
        rw [bytesS_append, line_eq]
    · intro i
      rw [look_cons]
      split
      · rename_i e; subst e; rw [q17]; exact .data (.int _ _)
      · rw [look_cons]
        split
        · rename_i e; subst e; rw [q16]; exact .data (.int _ _)
        · rw [look_cons]
          split
          · rename_i e; subst e; rw [q15]; exact .data hv0
          · exact .data (.dead _)
    · intro a3 w3 ⟨S', I', β', σ', hS, ht⟩ b3 d3 z3 f3
      have t44 : a3.tmps.getD 44 undef = .string (bytesS (l k).line) := by
        have h := ht 44
        rw [hS] at h
        exact h.str_inv
      replace q15 := (f3 15 (by rfl)).trans q15
      replace q16 := (f3 16 (by rfl)).trans q16
      replace q17 := (f3 17 (by rfl)).trans q17
      replace q5 := (f3 5 (by rfl)).trans q5
      replace hB := builder_below hB b3
      replace b3 := b2.trans (b3.mono b2.size)
      clear ht hS f3 b2 d2 z2 I' β' σ' S' t18
      refine op_call rfl rfl rfl rfl h_strings_Builder_WriteString rfl rfl ?_
      have hargs : (#[Operand.tmp 5, Operand.tmp 44].map a3.eval) = #[.pointer (some ⟨b, 0, none⟩), .string (bytesS (l k).line)] := by
        have e5 : a3.eval (.tmp 5) = _ := q5
        have e44 : a3.eval (.tmp 44) = _ := t44
        simp [e5, e44]
      show Calls prog 109 (#[Operand.tmp 5, Operand.tmp 44].map a3.eval) w3 _
      rw [hargs]
      refine (Any.Builder_WriteString { laysJoin with } extraJoin w0.heap.size b _ _ w3 hB ?_ b3.size).mono ?_
      · have h1 := actsS_len k fun i hi => hok i (by omega)
        have h2 := line_len (hok k hlt)
        show (Go.Lib.byteCells (actsS l k)).length + (bytesS (l k).line).size ≤ _
        rw [bytesS_size]
        unfold Go.Lib.byteCells
        rw [List.length_map]
        omega
      rintro e w4 ⟨rfl, hB4, b4⟩
      refine ⟨_, rfl, ?_⟩
      replace b4 := b3.trans b4
      have hB4 : Go.Lib.IsBuilder 168 5 w0.heap.size b (Go.Lib.byteCells (actsS l (k + 1))) w4 := by
        refine .inr ?_
        have e : Go.Lib.byteCells (actsS l (k + 1)) = Go.Lib.byteCells (actsS l k) ++ Go.Lib.strCells (bytesS (l k).line) := by
          show List.map _ (actsS l k ++ (l k).line) = _
          rw [List.map_append]; rfl
        rw [e]; exact hB4
      clear hB b3
      simp only [wpOpsIn]
      have z4 : 48 ≤ (a3.put (some 45) (.tuple #[.int .i64 ((bytesS (l k).line).size : Int), .nilIface])).tmps.size := by rw [put_size]; exact z3
      have d4 : (a3.put (some 45) (.tuple #[.int .i64 ((bytesS (l k).line).size : Int), .nilIface])).defers = [] := d3
      have p15 := (put_other (a := a3) (d := 45) (i := 15) (v := (.tuple #[.int .i64 ((bytesS (l k).line).size : Int), .nilIface])) (by decide)).trans q15
      have p16 := (put_other (a := a3) (d := 45) (i := 16) (v := (.tuple #[.int .i64 ((bytesS (l k).line).size : Int), .nilIface])) (by decide)).trans q16
      have p17 := (put_other (a := a3) (d := 45) (i := 17) (v := (.tuple #[.int .i64 ((bytesS (l k).line).size : Int), .nilIface])) (by decide)).trans q17
      have p5 := (put_other (a := a3) (d := 45) (i := 5) (v := (.tuple #[.int .i64 ((bytesS (l k).line).size : Int), .nilIface])) (by decide)).trans q5
      show Code.wpIn (Fw none) 1 prog _ _ (a3.put (some 45) (.tuple #[.int .i64 ((bytesS (l k).line).size : Int), .nilIface])) w4
      generalize a3.put (some 45) (.tuple #[.int .i64 ((bytesS (l k).line).size : Int), .nilIface]) = a4 at z4 d4 p15 p16 p17 p5
      clear q15 q16 q17 q5 t44 z3 d3 hargs
      have hw : w64 ((k : Int) + 1) = ((k + 1 : Nat) : Int) := by rw [w64, wrap_in] <;> omega
      refine wpIn_mono (piece (Γ := Γp gl) (C := Cs gl) (Q := nrm fun S => look S.tm 17 = .int .i64 (k + 1 : Nat)) (tm := [(17, .int .i64 k)]) mixed0 tok0 ⟨⟨fun _ _ _ _ _ h => h, fun _ _ _ _ h => h⟩, rfl⟩ rfl ?_ ?_ (m.below b4).im m.glo (m.below b4).gz ?_ z4 d4) ?_
      · rfl
      · conv => whnf
        show IV.int .i64 (w64 ((k : Int) + 1)) = _
        rw [hw]
      · intro i
        rw [look_cons]
        split
        · rename_i e; subst e; rw [p17]; exact .data (.int _ _)
        · exact .data (.dead _)
      rintro e a5 w5 ⟨hq, b5, d5, z5, f5⟩
      cases e with
      | normal =>
        obtain ⟨S', I', β', σ', hS, ht⟩ := hq
        have hS : look S'.tm 17 = .int .i64 (k + 1 : Nat) := hS
        refine ⟨⟨k + 1, hlt⟩, ⟨b4.trans (b5.mono b4.size), d5, z5, (f5 15 (by rfl)).trans p15, (f5 16 (by rfl)).trans p16, ?_, (f5 5 (by rfl)).trans p5, builder_below hB4 b5⟩, ?_⟩
        · have h := ht 17
          rw [hS] at h
          exact h.int_inv
        · show n - (k + 1) < n - k
          omega
      | ret => obtain ⟨_, _, _, _, h, _⟩ := hq; exact h.elim
      | exit id => obtain ⟨_, _, _, _, h, _⟩ := hq; exact h.elim
      | goto l => exact hq.elim
      | panic c => exact hq.elim
      | outgrown => exact hq.elim
  · rw [decide_eq_false (by omega : ¬ (k : Int) < n)] at t18
    refine wpIn_seq (wpIn_cond t18 (wpIn_exit ?_))
    show Code.wpIn (Fw none) 1 prog _ _ a1 w1
    have : k = n := by omega
    subst this
    refine wpIn_seq (wpIn_region ?_)
    refine op_call rfl rfl rfl rfl h_strings_Builder_String rfl rfl ?_
    have hargs : (#[Operand.tmp 5].map a1.eval) = #[.pointer (some ⟨b, 0, none⟩)] := by
      have e5 : a1.eval (.tmp 5) = _ := q5
      simp [e5]
    show Calls prog 111 (#[Operand.tmp 5].map a1.eval) w1 _
    rw [hargs]
    refine (Any.Builder_String_any { laysJoin with } extraJoin w0.heap.size b _ w1 hB b2.size).mono ?_
    rintro e w4 ⟨rfl, b4⟩
    refine ⟨_, rfl, ?_⟩
    replace b4 := b2.trans b4
    have p47 : (a1.put (some 47) (.string (bytesS (actsS l k)))).tmps.getD 47 undef = .string (bytesS (actsS l k)) := put_same (Nat.lt_of_lt_of_le (show 47 < 48 by decide) z2)
    refine op_val rfl rfl (fun c e => by cases e) (v := .string (bytesS (actsS l k))) (w2 := w4) ?_ ?_
    · show Result.ok (Next.value ((a1.put (some 47) (.string (bytesS (actsS l k)))).tmps.getD 47 undef)) w4 = _
      rw [p47]
    refine op_val rfl rfl (fun c e => by cases e) (v := .int .i64 0) (w2 := w4) rfl ?_
    simp only [wpOpsIn]
    have p2 : (((a1.put (some 47) (.string (bytesS (actsS l k)))).put (some 2) (.string (bytesS (actsS l k)))).put (some 3) (.int .i64 0)).tmps.getD 2 undef = .string (bytesS (actsS l k)) := by
      rw [put_other (by decide)]
      exact put_same (by rw [put_size]; exact Nat.lt_of_lt_of_le (show 2 < 48 by decide) z2)
    have p3 : (((a1.put (some 47) (.string (bytesS (actsS l k)))).put (some 2) (.string (bytesS (actsS l k)))).put (some 3) (.int .i64 0)).tmps.getD 3 undef = .int .i64 0 := put_same (by rw [put_size, put_size]; exact Nat.lt_of_lt_of_le (show 3 < 48 by decide) z2)
    have pd : (((a1.put (some 47) (.string (bytesS (actsS l k)))).put (some 2) (.string (bytesS (actsS l k)))).put (some 3) (.int .i64 0)).defers = [] := d2
    show Code.wpIn (Fw none) 1 prog Code.ret _ (((a1.put (some 47) (.string (bytesS (actsS l k)))).put (some 2) (.string (bytesS (actsS l k)))).put (some 3) (.int .i64 0)) w4
    generalize (((a1.put (some 47) (.string (bytesS (actsS l k)))).put (some 2) (.string (bytesS (actsS l k)))).put (some 3) (.int .i64 0)) = a9 at p2 p3 pd
    refine wpIn_ret ?_
    show LeavesInM (Fw none) 1 prog f_control_Print a9.tmps _ a9.defers .returning w4
    rw [pd]
    refine ⟨.tuple #[.string (bytesS (actsS l k)), .int .i64 0], ?_, _, rfl, ?_, b4⟩
    · have hr : f_control_Print.results = #[.tmp 2, .tmp 3] := rfl
      rw [results_eq, hr]
      simp [resSem, p2, p3]
    · refine .tup _ _ rfl fun j x hx => ?_
      match j, hx with
      | 0, hx => simp at hx; subst hx; exact .str _
      | 1, hx => simp at hx; subst hx; exact .int _ _
theorem c_Print (up : List Ces) (hk : gl g_control_kinds = kindsI) (hg : gl g_internal_strconv_uint64pow10 = powI) (n : Nat) (hn : n ≤ 10000000) (l : Nat → Ac) :
    Cs gl n_control_Print up [.lst none 5 n fun i => (l i).cs] (bif actsE n l != 0 then .tup [.str (bytesS []), .int .i64 (actsE n l)] else .tup [.str (bytesS (actsS l n)), .int .i64 0]) up := by
  by_cases h0 : actsE n l = 0
  · have q : (actsE n l != 0) = false := by simpa using h0
    rw [q]
    exact c_PrintOk up hk hg n hn l h0
  · have q : (actsE n l != 0) = true := by simpa using h0
    rw [q]
    refine mk h_control_Print rfl rfl ?_
    have hp := fun up => c_printable (gl := gl) up hk n hn l
    conv => whnf
    repeat first
      | (refine DRAW.seek ?_; repeat (first | refine TRYD.take ?_ | refine TRYD.next ?_); conv => whnf)
      | (refine HOLD.mk (by first | exact trivial | exact ⟨⟨rfl, rfl⟩, trivial⟩ | exact ⟨⟨rfl, rfl⟩, ⟨rfl, rfl⟩, trivial⟩) ?_; (conv => whnf))
      | (refine CALL0.by (hp ..) rfl ?_; conv => whnf)
      | (refine CALLQ.mk _ _ _ (leL_refl _) (hp ..) rfl ?_; conv => whnf)
    split
    rotate_left
    · rename_i h
      exact Bool.noConfusion ((q).symm.trans h)
    rename_i hN
    clear hN
    conv => whnf
    exact ⟨rfl, rfl⟩
end Go.Proofs.YtkdlegfakefjgaaGreatDoor.Ix

namespace Go.Proofs.YtkdlegfakefjgaaGreatDoor.Ix
open Go.Proofs
set_option maxRecDepth 100000
set_option linter.unusedVariables false
set_option linter.unusedSimpArgs false
variable {gl : Nat → IV}
def usM : Mc := ⟨10, 6, 2, 8, 40, 20, 1⟩
theorem us_ok : usM.ok := Mc.err_ok (by decide +kernel)
theorem us_fea : usM.fea ≤ 20 := by decide
def begA : Nat → Ac
  | 0 => ⟨sStart, 0, 0, 0, -1⟩
  | _ + 1 => ⟨sTick, 10, 0, 0, -1⟩
theorem c_usual (up : List Ces) : Cs gl n_nacellelaw05_usual up [] usM.iv up := by
  refine mk h_nacellelaw05_usual rfl rfl ?_
  conv => whnf
  exact ⟨rfl, rfl⟩
theorem c_begun (up : List Ces) : Cs gl n_nacellelaw05_begun up [] (.lst none 5 4 fun i => (begA i).cs) up := by
  have h : Cs gl n_nacellelaw05_begun up [] (.lst (some 5) 5 4 (litF 5 [.str sStart, .int .i64 0, .int .i64 0, .int .i64 0, .int .i64 (-1), .str sTick, .int .i64 10, .int .i64 0, .int .i64 0, .int .i64 (-1), .str sTick, .int .i64 10, .int .i64 0, .int .i64 0, .int .i64 (-1), .str sTick, .int .i64 10, .int .i64 0, .int .i64 0, .int .i64 (-1)])) up := by
    refine mk h_nacellelaw05_begun rfl rfl ?_
    conv => whnf
    exact ⟨rfl, rfl⟩
  refine h.res ⟨.inl rfl, rfl, rfl, fun i hi => ?_⟩
  match i, hi with
  | 0, _ => rfl
  | 1, _ => rfl
  | 2, _ => rfl
  | 3, _ => rfl
theorem beg_run : repE usM begA 4 0 = (0, 0) := by
  rw [repE_run us_ok us_fea begA 4 0 (begin_inv us_ok)]
  decide +kernel
theorem beg_e0 : repE0 usM 4 = 0 := by decide +kernel
theorem beg_s : repS usM begA 4 = ⟨sRun, 14, 0, 0, 0, 0, -1⟩ := by
  rw [rep_run]
  kernel_rfl
def stA (r : ByteArray) : Sta := ⟨r, 14, 0, 0, 0, 0, -1⟩
theorem a_Replay (up : List Ces) (hk : gl g_control_kinds = kindsI) (r : ByteArray) (hr : r = sRun) : Cs gl n_control_Replay up [usM.iv, .lst none 5 4 fun i => (begA i).cs] (.tup [(stA r).iv, .int .i64 0, .int .i64 0]) up := by
  have h := c_Replay (gl := gl) up hk usM 4 (by decide) begA
  rw [beg_e0, beg_run, beg_s] at h
  subst hr
  exact h
def spd : Nat → Int := fun i => [0, 0, 4, 14].getD i 0
theorem a_Speeds (up : List Ces) (hk : gl g_control_kinds = kindsI) : Cs gl n_control_Speeds up [usM.iv, .lst none 5 4 fun i => (begA i).cs] (.tup [.lst none 1 4 fun i => [.int .i64 (spd i)], .int .i64 0]) up := by
  have h := c_Speeds (gl := gl) up hk usM 4 (by decide) begA
  rw [beg_e0, beg_run] at h
  refine Comp.res (r := .tup [.lst (some 20) 1 4 fun i => [.int .i64 (repS usM begA (i + 1)).speed], .int .i64 0]) h ⟨⟨.inl rfl, rfl, rfl, fun i hi => ?_⟩, leV_refl _, trivial⟩
  show [IV.int .i64 (repS usM begA (i + 1)).speed] = [.int .i64 (spd i)]
  rw [rep_run]
  obtain rfl | rfl | rfl | rfl : i = 0 ∨ i = 1 ∨ i = 2 ∨ i = 3 := by omega
  all_goals kernel_rfl
def stpL (z : ByteArray) : List Sta := [⟨sStop, 14, 0, 0, 0, 0, 0⟩, ⟨sStop, 20, 0, 2, 2, 0, 0⟩, ⟨sStop, 22, 0, 4, 4, 0, 0⟩, ⟨sStop, 20, 0, 6, 6, 0, 0⟩, ⟨sStop, 18, 0, 6, 6, 0, 0⟩, ⟨sStop, 16, 0, 6, 6, 0, 0⟩, ⟨sStop, 14, 0, 6, 6, 0, 0⟩, ⟨sStop, 12, 0, 6, 6, 0, 0⟩, ⟨sStop, 10, 0, 6, 6, 0, 0⟩, ⟨sStop, 8, 0, 6, 6, 0, 0⟩, ⟨sStop, 6, 0, 6, 6, 0, 0⟩, ⟨sStop, 4, 0, 6, 6, 0, 0⟩, ⟨sStop, 2, 0, 6, 6, 0, 0⟩, ⟨sStop, 0, 0, 6, 6, 0, 0⟩]
def stp (z : ByteArray) (i : Nat) : Sta := (stpL z).getD i Sta.zero
theorem stA_rng : (stA sRun).rng usM := ⟨by decide, by decide, by decide, by decide⟩
theorem stA_err : (stA sRun).err usM = 0 := by
  rw [staErr_run]
  decide +kernel
theorem stA_run : (stA sRun).pk usM 0 = 22 ∧ (stA sRun).num usM 0 = 13 := by
  have h := pk_run us_ok (k := 0) (by decide) stA_rng (by decide) (mu_small us_ok us_fea stA_rng (by decide) _)
  have e : (stA sRun).runW usM 0 = (22, 13) := by kernel_rfl
  rw [e] at h
  exact h
theorem stA_takes : (stA sRun).takes usM 0 13 := by
  have h := (takes_num us_ok stA_rng (by decide) (stuck := 0) (by decide) (by decide)).1
  rw [stA_run.2] at h
  exact h
theorem stp_eq : ∀ i, i < 14 → (stA sRun).stopS usM 0 i = stp sStop i := by
  intro i hi
  obtain rfl | rfl | rfl | rfl | rfl | rfl | rfl | rfl | rfl | rfl | rfl | rfl | rfl | rfl : i = 0 ∨ i = 1 ∨ i = 2 ∨ i = 3 ∨ i = 4 ∨ i = 5 ∨ i = 6 ∨ i = 7 ∨ i = 8 ∨ i = 9 ∨ i = 10 ∨ i = 11 ∨ i = 12 ∨ i = 13 := by omega
  all_goals kernel_rfl
theorem eqSta_refl (s : Sta) : eqSta s s = true := by
  unfold eqSta
  rw [eqS_iff.2 rfl]
  simp
theorem a_Stop (up : List Ces) (r z : ByteArray) (hr : r = sRun) (hz : z = sStop) : Cs gl n_control_Stop up [usM.iv, (stA r).iv, .int .i64 0] (.tup [.lst none 7 14 fun i => (stp z i).cs, .int .i64 0]) up := by
  subst hr
  subst hz
  have h := c_Stop (gl := gl) up (stA sRun) usM 0 13 fun _ => ⟨stA_takes, by decide⟩
  have e0 : ((stA sRun).err0 usM 0 != 0) = false := by
    unfold Sta.err0
    rw [stA_err]
    decide
  have e1 : decide ((stA sRun).most usM 0 13 > usM.lim) = false := by
    have h := stA_run.1
    unfold Sta.pk at h
    rw [stA_run.2] at h
    rw [h]; decide
  unfold Sta.StopR at h
  rw [e0, e1, stopF_eq] at h
  refine Comp.res (r := .tup [.lst (some 25) 7 14 fun i => ((stA sRun).stopS usM 0 i).cs, .int .i64 0]) h ⟨⟨.inl rfl, rfl, rfl, fun i hi => ?_⟩, leV_refl _, trivial⟩
  show ((stA sRun).stopS usM 0 i).cs = (stp sStop i).cs
  rw [stp_eq i hi]
theorem a_Peak (up : List Ces) (r : ByteArray) (hr : r = sRun) : Cs gl n_control_Peak up [usM.iv, (stA r).iv, .int .i64 0] (.tup [.int .i64 22, .int .i64 13, .int .i64 0]) up := by
  subst hr
  have h := c_Peak (gl := gl) up (stA sRun) usM 0 13 fun _ => ⟨stA_takes, by decide⟩
  have e0 : ((stA sRun).err0 usM 0 != 0) = false := by
    unfold Sta.err0
    rw [stA_err]
    decide
  have e1 : (stA sRun).most usM 0 13 = 22 := by
    have h := stA_run.1
    unfold Sta.pk at h
    rwa [stA_run.2] at h
  unfold Sta.peakR at h
  rw [e0, e1] at h
  exact h
theorem a_CheckStop (up : List Ces) (r z : ByteArray) (hr : r = sRun) (hz : z = sStop) : Cs gl n_control_CheckStop up [usM.iv, (stA r).iv, .int .i64 0, .lst none 7 14 fun i => (stp z i).cs] (.int .i64 0) up := by
  subst hr
  subst hz
  have h := c_CheckStop (gl := gl) up (stA sRun) usM 0 14 (by decide) (stp sStop)
  have e0 : (csErr0 (stA sRun) usM 0 14 != 0) = false := by
    unfold csErr0
    rw [stA_err]
    decide
  have e1 : decide ((stA sRun).most usM 0 ((stA sRun).num usM 0) > usM.lim) = false := by
    have h := stA_run.1
    unfold Sta.pk at h
    rw [h]; decide
  have e2 : allB (fun i => eqSta (stp sStop i) ((stA sRun).stopS usM 0 i)) 14 0 = true := by
    have g : ∀ n i, i + n ≤ 14 → allB (fun i => eqSta (stp sStop i) ((stA sRun).stopS usM 0 i)) n i = true := by
      intro n
      induction n with
      | zero => intro i _; rfl
      | succ n ih =>
        intro i hi
        unfold allB
        rw [ih (i + 1) (by omega), stp_eq i (by omega), eqSta_refl]; rfl
    exact g 14 0 (by decide)
  unfold csErr at h
  rw [e0, e1, e2, stA_run.2] at h
  exact h
def rwL : List Rw := [⟨0, 32⟩, ⟨1, 37⟩, ⟨2, 40⟩, ⟨3, 40⟩, ⟨4, 40⟩, ⟨5, 40⟩, ⟨6, 40⟩]
theorem rows_us : rowsOf usM (numN usM) 7 = rwL := by
  rw [rows_run us_ok us_fea 7 (by decide)]
  kernel_rfl
theorem a_Table (up : List Ces) : Cs gl n_control_Table up [usM.iv] (.tup [.lst none 2 7 fun i => (rwL.getD i row0).cs, .int .i64 0]) up := by
  have h := c_Table (gl := gl) up usM (numN usM) fun hm a v h1 h2 h3 h4 k hk => tab_takes hm a v h1 h2 h3 h4 k hk
  unfold tableR at h
  rw [show (usM.err != 0) = false by decide +kernel, show (usM.fea + 1).toNat = 7 from rfl, rows_us] at h
  exact Comp.res h ⟨tagless _ _ _ _, leV_refl _, trivial⟩
def fastS (r : ByteArray) : Sta := ⟨r, 30, 0, 0, 0, 0, -1⟩
theorem fast_rng : (fastS sRun).rng usM := ⟨by decide, by decide, by decide, by decide⟩
theorem fast_err : (fastS sRun).err usM = 0 := by
  rw [staErr_run]
  decide +kernel
theorem a_Allowed (up : List Ces) (hk : gl g_control_kinds = kindsI) (r : ByteArray) (hr : r = sRun) (t : ByteArray) (ht : t = sTick) : Cs gl n_control_Allowed up [usM.iv, (fastS r).iv, (Ac.mk t 10 0 0 (-1)).iv] (.tup [.int .i64 7, .int .i64 0]) up := by
  subst hr
  subst ht
  have h := c_Allowed (gl := gl) up hk usM (fastS sRun) ⟨sTick, 10, 0, 0, -1⟩
  have e1 : (Ac.mk sTick 10 0 0 (-1)).err usM = 0 := by
    rw [acErr_run]
    decide +kernel
  have e0 : (actE usM (fastS sRun) ⟨sTick, 10, 0, 0, -1⟩ != 0) = false := by
    unfold actE
    rw [fast_err, e1]
    decide
  rw [e0, allowed_run us_ok us_fea fast_rng (Ac.err_ok e1).2.1, show (fastS sRun).allowedX usM ⟨sTick, 10, 0, 0, -1⟩ = 7 by kernel_rfl] at h
  exact h
theorem a_Next (up : List Ces) (hk : gl g_control_kinds = kindsI) (r : ByteArray) (hr : r = sRun) (t : ByteArray) (ht : t = sTick) : Cs gl n_control_Next up [usM.iv, (fastS r).iv, (Ac.mk t 10 0 8 (-1)).iv] (.tup [(Sta.mk r 32 0 0 0 8 (-1)).iv, .int .i64 0]) up := by
  subst hr
  subst ht
  have h := c_Next (gl := gl) up hk usM (fastS sRun) ⟨sTick, 10, 0, 8, -1⟩
  have e1 : (Ac.mk sTick 10 0 8 (-1)).err usM = 0 := by
    rw [acErr_run]
    decide +kernel
  have e0 : (actE usM (fastS sRun) ⟨sTick, 10, 0, 8, -1⟩ != 0) = false := by
    unfold actE
    rw [fast_err, e1]
    decide
  unfold nextR at h
  rw [e0, allowed_run us_ok us_fea fast_rng (Ac.err_ok e1).2.1, show (fastS sRun).allowedX usM ⟨sTick, 10, 0, 8, -1⟩ = 0 by kernel_rfl, behind_run, show (fastS sRun).behindX usM ⟨sTick, 10, 0, 8, -1⟩ = ⟨sRun, 32, 0, 0, 0, 8, -1⟩ by kernel_rfl] at h
  exact h
theorem a_Propose (up : List Ces) (r : ByteArray) (hr : r = sRun) (t : ByteArray) (ht : t = sTick) : Cs gl n_control_Propose up [usM.iv, (Sta.mk r 24 4 4 4 0 (-1)).iv, .int .i64 10] (.tup [(Ac.mk t 10 4 8 (-1)).iv, .int .i64 0]) up := by
  subst hr
  subst ht
  have h := c_Propose (gl := gl) up usM ⟨sRun, 24, 4, 4, 4, 0, -1⟩ 10
  have e1 : (Sta.mk sRun 24 4 4 4 0 (-1)).err usM = 0 := by
    rw [staErr_run]
    decide +kernel
  unfold proposeR at h
  have hi : (Sta.mk sRun 24 4 4 4 0 (-1)).inv usM := ⟨⟨by decide, by decide, by decide, by decide⟩, by decide, by decide⟩
  rw [e1, show (orL [0, withinS 10 0 usM.wind] != 0) = false by decide, propose_run us_ok us_fea hi (by decide), show (Sta.mk sRun 24 4 4 4 0 (-1)).proposeX usM 10 = ⟨sTick, 10, 4, 8, -1⟩ by kernel_rfl] at h
  exact h
end Go.Proofs.YtkdlegfakefjgaaGreatDoor.Ix

namespace Go.Proofs.YtkdlegfakefjgaaGreatDoor.Ix
open Go.Proofs
set_option maxRecDepth 100000
set_option linter.unusedVariables false
set_option linter.unusedSimpArgs false
variable {gl : Nat → IV}
def sameIn (n k : Nat) (f g : Nat → Int) : Bool := bif (n : Int) != k then false else allB (fun i => f i == g i) n 0
theorem c_rSameInts (up : List Ces) (n k : Nat) (hn : n ≤ 10000000) (f g : Nat → Int) :
    Cs gl n_nacelleref01_SameInts up [.lst none 1 n fun i => [.int .i64 (f i)], .lst none 1 k fun i => [.int .i64 (g i)]] (.bool (sameIn n k f g)) up := by
  refine mk h_nacelleref01_SameInts rfl rfl ?_
  unfold sameIn
  cases q0 : ((n : Int) != k) with
  | true =>
    conv => whnf
    split
    rotate_left
    · rename_i h
      exact Bool.noConfusion ((q0).symm.trans h)
    rename_i hN
    clear hN
    conv => whnf
    exact ⟨rfl, rfl⟩
  | false =>
    have e : n = k := by have : (n : Int) = k := by simpa using q0
                         omega
    subst e
    conv => whnf
    split
    · rename_i h
      exact Bool.noConfusion ((q0).symm.trans h)
    rename_i hN
    clear hN
    conv => whnf
    refine .mk (α := {i : Nat // i ≤ n ∧ allB (fun i => f i == g i) n 0 = allB (fun i => f i == g i) (n - i) i}) (fun i => ⟨[(5, .int .i64 i.1), (1, .lst none 1 n fun i => [.int .i64 (g i)]), (0, .lst none 1 n fun i => [.int .i64 (f i)])], [], up⟩) (fun i => n - i.1) ⟨0, Nat.zero_le _, rfl⟩ ⟨?_, ?_, rfl, rfl⟩ ?_
    · exact ⟨leV_refl _, leV_refl _, leV_refl _, trivial⟩
    · exact trivial
    rintro ⟨i, hi, he⟩
    have hw : w64 ((i : Int) + 1) = ((i + 1 : Nat) : Int) := by rw [w64, wrap_in] <;> omega
    by_cases hlt : i < n
    · have q : decide ((i : Int) < (n : Int)) = true := decide_eq_true (by omega)
      rw [allB_step hlt] at he
      cases qe : (f i == g i) with
      | false =>
        rw [qe, Bool.false_and] at he
        have ne : (f i != g i) = true := by simpa using qe
        conv => whnf
        split
        rotate_left
        · rename_i h
          exact Bool.noConfusion ((q).symm.trans h)
        rename_i hN
        clear hN
        conv => whnf
        refine DRAW.seek ?_
        repeat (first | refine TRYD.take ?_ | refine TRYD.next ?_)
        conv => whnf
        split
        rotate_left
        · rename_i h
          exact Bool.noConfusion ((q).symm.trans h)
        rename_i hN
        clear hN
        conv => whnf
        split
        rotate_left
        · rename_i h
          exact Bool.noConfusion ((q).symm.trans h)
        rename_i hN
        clear hN
        conv => whnf
        split
        rotate_left
        · rename_i h
          exact Bool.noConfusion ((ne).symm.trans h)
        rename_i hN
        clear hN
        conv => whnf
        exact ⟨congrArg IV.bool he.symm, rfl⟩
      | true =>
        rw [qe, Bool.true_and] at he
        have ne : (f i != g i) = false := by simpa using qe
        conv => whnf
        split
        rotate_left
        · rename_i h
          exact Bool.noConfusion ((q).symm.trans h)
        rename_i hN
        clear hN
        conv => whnf
        refine DRAW.seek ?_
        repeat (first | refine TRYD.take ?_ | refine TRYD.next ?_)
        conv => whnf
        split
        rotate_left
        · rename_i h
          exact Bool.noConfusion ((q).symm.trans h)
        rename_i hN
        clear hN
        conv => whnf
        split
        rotate_left
        · rename_i h
          exact Bool.noConfusion ((q).symm.trans h)
        rename_i hN
        clear hN
        conv => whnf
        split
        · rename_i h
          exact Bool.noConfusion ((ne).symm.trans h)
        rename_i hN
        clear hN
        conv => whnf
        exact ⟨⟨i + 1, hlt, he⟩, ⟨⟨leV_int hw, leV_refl _, leV_refl _, trivial⟩, trivial, rfl, rfl⟩, (by show n - (i + 1) < n - i; omega)⟩
    · have q : decide ((i : Int) < (n : Int)) = false := decide_eq_false (by omega)
      have : i = n := by omega
      subst this
      rw [Nat.sub_self] at he
      conv => whnf
      split
      · rename_i h
        exact Bool.noConfusion ((q).symm.trans h)
      rename_i hN
      clear hN
      conv => whnf
      exact ⟨congrArg IV.bool he.symm, rfl⟩
theorem sameIn_refl (n : Nat) (f : Nat → Int) : sameIn n n f f = true := by
  unfold sameIn
  rw [show ((n : Int) != n) = false by simp, cond_false]
  have : ∀ n i, allB (fun i => f i == f i) n i = true := by
    intro n
    induction n with
    | zero => intro i; rfl
    | succ n ih => intro i; unfold allB; rw [ih, beq_self_eq_true]; rfl
  exact this n 0
theorem a_SameInts (up : List Ces) : Cs gl n_nacelleref01_SameInts up [.lst none 1 4 fun i => [.int .i64 (spd i)], .lst none 1 4 (litF 1 [.int .i64 0, .int .i64 0, .int .i64 4, .int .i64 14])] (.bool true) up := by
  have h := c_rSameInts (gl := gl) up 4 4 (by decide) spd spd
  rw [sameIn_refl] at h
  refine Comp.le (args' := [.lst none 1 4 fun i => [.int .i64 (spd i)], .lst none 1 4 fun i => [.int .i64 (spd i)]]) ?_ h
  refine ⟨leV_refl _, ⟨.inl rfl, rfl, rfl, fun i hi => ?_⟩, trivial⟩
  match i, hi with
  | 0, _ => rfl
  | 1, _ => rfl
  | 2, _ => rfl
  | 3, _ => rfl
def exText : ByteArray := ⟨#[115, 116, 97, 114, 116, 32, 48, 32, 48, 32, 48, 32, 45, 10, 116, 105, 99, 107, 32, 49, 48, 32, 48, 32, 48, 32, 45, 10, 116, 105, 99, 107, 32, 49, 48, 32, 48, 32, 48, 32, 45, 10, 116, 105, 99, 107, 32, 49, 48, 32, 48, 32, 48, 32, 45, 10]⟩
theorem itoa_0 : Go.Lib.itoa 0 = [48] := by
  rw [show (0 : Int) = ((0 : Nat) : Int) from rfl, Go.Lib.itoa_nonneg, Go.Lib.decDigits_one (by decide)]; rfl
theorem itoa_10 : Go.Lib.itoa 10 = [49, 48] := by
  rw [show (10 : Int) = ((10 : Nat) : Int) from rfl, Go.Lib.itoa_nonneg, Go.Lib.decDigits_two (by decide) (by decide)]; rfl
theorem beg_text : actsS begA 4 = exText.data.toList := by
  have l0 : (begA 0).line = [115, 116, 97, 114, 116, 32, 48, 32, 48, 32, 48, 32, 45, 10] := by
    show sStart.data.toList ++ (32 :: Go.Lib.itoa 0 ++ (32 :: Go.Lib.itoa 0 ++ (32 :: Go.Lib.itoa 0 ++ (32 :: Ac.blade _ ++ [10])))) = _
    rw [itoa_0]; rfl
  have l1 : ∀ i, (begA (i + 1)).line = [116, 105, 99, 107, 32, 49, 48, 32, 48, 32, 48, 32, 45, 10] := by
    intro i
    show sTick.data.toList ++ (32 :: Go.Lib.itoa 10 ++ (32 :: Go.Lib.itoa 0 ++ (32 :: Go.Lib.itoa 0 ++ (32 :: Ac.blade _ ++ [10])))) = _
    rw [itoa_0, itoa_10]; rfl
  show ((([] ++ (begA 0).line) ++ (begA 1).line) ++ (begA 2).line) ++ (begA 3).line = _
  rw [l0, l1 0, l1 1, l1 2]; rfl
theorem beg_acts : actsE 4 begA = 0 := by
  have : ∀ i, (begA i).checkE 100 100 100 = 0 := fun i => by
    rw [check_run]
    cases i with
    | zero => decide +kernel
    | succ i =>
      show (Ac.mk sTick 10 0 0 (-1)).checkX 100 100 100 = 0
      decide +kernel
  unfold actsE
  rw [show decide (((4 : Nat) : Int) > 1024) = false from rfl, cond_false, firstS_zero]
  exact fun j _ _ => this j
theorem a_Print (up : List Ces) (hk : gl g_control_kinds = kindsI) (hg : gl g_internal_strconv_uint64pow10 = powI) (x : ByteArray) (hx : x = exText) : Cs gl n_control_Print up [.lst none 5 4 fun i => (begA i).cs] (.tup [.str x, .int .i64 0]) up := by
  subst hx
  have h := c_Print (gl := gl) up hk hg 4 (by decide) begA
  rw [beg_acts, beg_text] at h
  exact h
def eqAc (a b : Ac) : Bool := eqS a.kind b.kind && (a.wind == b.wind && (a.pitch == b.pitch && (a.tor == b.tor && (a.stuck == b.stuck && true))))
theorem eqAc_refl (a : Ac) : eqAc a a = true := by
  unfold eqAc
  rw [eqS_iff.2 rfl]
  simp
def lvAw : List (Nat × List Nat) := [(23, [0, 1, 2, 3, 4, 5, 6, 7, 8, 9, 10, 11, 23]), (24, [0, 1, 2, 3, 4, 5, 6, 7, 8, 9, 10, 11, 23, 24]), (25, [0, 1, 2, 3, 4, 5, 6, 7, 8, 9, 10, 11, 25]), (30, [0, 1, 2, 3, 4, 5, 6, 7, 8, 9, 10, 11, 30]), (31, [0, 1, 2, 3, 4, 5, 6, 7, 8, 9, 10, 11, 30, 31]), (32, [0, 1, 2, 3, 4, 5, 6, 7, 8, 9, 10, 11, 32]), (36, [0, 1, 2, 3, 4, 5, 6, 7, 8, 9, 10, 11, 36]), (38, [0, 1, 2, 3, 4, 5, 6, 7, 8, 9, 10, 11, 38]), (42, [0, 1, 2, 3, 4, 5, 6, 7, 8, 9, 10, 11, 42]), (44, [0, 1, 2, 3, 4, 5, 6, 7, 8, 9, 10, 11, 44]), (49, [0, 1, 2, 3, 4, 5, 6, 7, 8, 9, 10, 11, 49]), (50, [0, 1, 2, 3, 4, 5, 6, 7, 8, 9, 10, 11, 50]), (55, [0, 1, 2, 3, 4, 5, 6, 7, 8, 9, 10, 11, 12, 13, 55]), (58, [0, 1, 2, 3, 4, 5, 6, 7, 8, 9, 10, 11, 12, 13, 58]), (62, [0, 1, 2, 3, 4, 5, 6, 7, 8, 9, 10, 11, 12, 13, 14, 15, 62]), (65, [0, 1, 2, 3, 4, 5, 6, 7, 8, 9, 10, 11, 12, 14, 15, 65]), (69, [0, 1, 2, 3, 4, 5, 6, 7, 8, 9, 10, 11, 12, 14, 15, 16, 17, 69]), (72, [0, 1, 2, 3, 4, 5, 6, 7, 8, 9, 10, 11, 12, 14, 15, 16, 17, 72]), (76, [0, 1, 2, 3, 4, 5, 6, 7, 8, 9, 10, 11, 12, 14, 15, 16, 17, 18, 19, 76]), (77, [0, 1, 2, 3, 4, 5, 6, 7, 8, 9, 10, 11, 12, 14, 15, 16, 17, 18, 19, 77]), (110, [0, 1, 6, 8, 9, 11, 14, 16, 18, 20, 107, 110]), (201, [0, 1, 6, 200, 201]), (204, [0, 200, 204])]
set_option maxHeartbeats 16000000 in
theorem c_awake (up : List Ces) (hk : gl g_control_kinds = kindsI) (hg : gl g_internal_strconv_uint64pow10 = powI) : Cs gl n_nacellelaw05_awake up [] (.bool true) up := by
  obtain ⟨r, hr⟩ : ∃ r, r = sRun := ⟨_, rfl⟩
  obtain ⟨z, hz⟩ : ∃ r, r = sStop := ⟨_, rfl⟩
  obtain ⟨t, ht⟩ : ∃ r, r = sTick := ⟨_, rfl⟩
  obtain ⟨x, hx⟩ : ∃ r, r = exText := ⟨_, rfl⟩
  obtain ⟨f, hf⟩ : ∃ f, f = stp z := ⟨_, rfl⟩
  have h1 := fun up => a_Replay (gl := gl) up hk r hr
  have h2 := fun up => a_Speeds (gl := gl) up hk
  have h3 := fun up => a_Stop (gl := gl) up r z hr hz
  have h4 := fun up => a_Peak (gl := gl) up r hr
  have h5 := fun up => a_Allowed (gl := gl) up hk sRun rfl sTick rfl
  have h6 := fun up => a_Next (gl := gl) up hk sRun rfl sTick rfl
  have h7 := fun up => a_Propose (gl := gl) up sRun rfl t ht
  have h8 := fun up => a_Print (gl := gl) up hk hg x hx
  have h9 := fun up => a_CheckStop (gl := gl) up r z hr hz
  rw [← hf] at h3 h9
  have n5 : ((f 2).speed != 22) = false := by rw [hf]; rfl
  have n6 : ((f 13).speed != 0) = false := by rw [hf]; rfl
  have n1 : (!eqSta (stA r) (stA sRun)) = false := by rw [hr, eqSta_refl]; rfl
  have n2 : (!eqSta (f 1) (stp sStop 1)) = false := by rw [hf, hz, eqSta_refl]; rfl
  have n3 : eqAc ⟨t, 10, 4, 8, -1⟩ ⟨sTick, 10, 4, 8, -1⟩ = true := by rw [ht, eqAc_refl]
  have n4 : eqS x exText = true := eqS_iff.2 hx
  clear hf hz hr ht hx
  refine mk h_nacellelaw05_awake rfl rfl ?_
  conv => whnf
  repeat first
    | (refine DRAW.seek ?_; repeat (first | refine TRYD.take ?_ | refine TRYD.next ?_); conv => whnf)
    | (refine HOLD.mk (by first | exact trivial | exact ⟨⟨rfl, rfl⟩, trivial⟩ | exact ⟨⟨rfl, rfl⟩, ⟨rfl, rfl⟩, trivial⟩) ?_; (conv => whnf))
    | (refine CALL0.cutBy lvAw _ _ _ _ _ (leL_refl _) (c_usual ..) rfl ?_; conv => whnf)
    | (refine CALL0.by (c_usual ..) rfl ?_; conv => whnf)
    | (refine CALLQ.mk _ _ _ (leL_refl _) (c_usual ..) rfl ?_; conv => whnf)
    | (refine CALL0.cutBy lvAw _ _ _ _ _ (leL_refl _) (c_begun ..) rfl ?_; conv => whnf)
    | (refine CALL0.by (c_begun ..) rfl ?_; conv => whnf)
    | (refine CALLQ.mk _ _ _ (leL_refl _) (c_begun ..) rfl ?_; conv => whnf)
    | (refine CALL0.cutBy lvAw _ _ _ _ _ (leL_refl _) (h1 ..) rfl ?_; conv => whnf)
    | (refine CALL0.by (h1 ..) rfl ?_; conv => whnf)
    | (refine CALLQ.mk _ _ _ (leL_refl _) (h1 ..) rfl ?_; conv => whnf)
    | (refine CALL0.cutBy lvAw _ _ _ _ _ (leL_refl _) (h2 ..) rfl ?_; conv => whnf)
    | (refine CALL0.by (h2 ..) rfl ?_; conv => whnf)
    | (refine CALLQ.mk _ _ _ (leL_refl _) (h2 ..) rfl ?_; conv => whnf)
    | (refine CALL0.cutBy lvAw _ _ _ _ _ (leL_refl _) (h3 ..) rfl ?_; conv => whnf)
    | (refine CALL0.by (h3 ..) rfl ?_; conv => whnf)
    | (refine CALLQ.mk _ _ _ (leL_refl _) (h3 ..) rfl ?_; conv => whnf)
    | (refine CALL0.cutBy lvAw _ _ _ _ _ (leL_refl _) (h4 ..) rfl ?_; conv => whnf)
    | (refine CALL0.by (h4 ..) rfl ?_; conv => whnf)
    | (refine CALLQ.mk _ _ _ (leL_refl _) (h4 ..) rfl ?_; conv => whnf)
    | (refine CALL0.cutBy lvAw _ _ _ _ _ (leL_refl _) (a_Table ..) rfl ?_; conv => whnf)
    | (refine CALL0.by (a_Table ..) rfl ?_; conv => whnf)
    | (refine CALLQ.mk _ _ _ (leL_refl _) (a_Table ..) rfl ?_; conv => whnf)
    | (refine CALL0.cutBy lvAw _ _ _ _ _ (leL_refl _) (h5 ..) rfl ?_; conv => whnf)
    | (refine CALL0.by (h5 ..) rfl ?_; conv => whnf)
    | (refine CALLQ.mk _ _ _ (leL_refl _) (h5 ..) rfl ?_; conv => whnf)
    | (refine CALL0.cutBy lvAw _ _ _ _ _ (leL_refl _) (h6 ..) rfl ?_; conv => whnf)
    | (refine CALL0.by (h6 ..) rfl ?_; conv => whnf)
    | (refine CALLQ.mk _ _ _ (leL_refl _) (h6 ..) rfl ?_; conv => whnf)
    | (refine CALL0.cutBy lvAw _ _ _ _ _ (leL_refl _) (h7 ..) rfl ?_; conv => whnf)
    | (refine CALL0.by (h7 ..) rfl ?_; conv => whnf)
    | (refine CALLQ.mk _ _ _ (leL_refl _) (h7 ..) rfl ?_; conv => whnf)
    | (refine CALL0.cutBy lvAw _ _ _ _ _ (leL_refl _) (h8 ..) rfl ?_; conv => whnf)
    | (refine CALL0.by (h8 ..) rfl ?_; conv => whnf)
    | (refine CALLQ.mk _ _ _ (leL_refl _) (h8 ..) rfl ?_; conv => whnf)
  split
  · rename_i h
    exact Bool.noConfusion ((n1).symm.trans h)
  rename_i hN
  clear hN
  conv => whnf
  repeat first
    | (refine DRAW.seek ?_; repeat (first | refine TRYD.take ?_ | refine TRYD.next ?_); conv => whnf)
    | (refine HOLD.mk (by first | exact trivial | exact ⟨⟨rfl, rfl⟩, trivial⟩ | exact ⟨⟨rfl, rfl⟩, ⟨rfl, rfl⟩, trivial⟩) ?_; (conv => whnf))
    | (refine CALL0.cutBy lvAw _ _ _ _ _ (leL_refl _) (a_SameInts ..) rfl ?_; conv => whnf)
    | (refine CALL0.by (a_SameInts ..) rfl ?_; conv => whnf)
    | (refine CALLQ.mk _ _ _ (leL_refl _) (a_SameInts ..) rfl ?_; conv => whnf)
  split
  · rename_i h
    exact Bool.noConfusion ((n2).symm.trans h)
  rename_i hN
  clear hN
  conv => whnf
  split
  · rename_i h
    exact Bool.noConfusion ((n5).symm.trans h)
  rename_i hN
  clear hN
  conv => whnf
  split
  · rename_i h
    exact Bool.noConfusion ((n6).symm.trans h)
  rename_i hN
  clear hN
  conv => whnf
  refine DRAW.seek ?_
  repeat (first | refine TRYD.take ?_ | refine TRYD.next ?_)
  conv => whnf
  split
  rotate_left
  · rename_i h
    exact Bool.noConfusion ((n3).symm.trans h)
  rename_i hN
  clear hN
  conv => whnf
  split
  rotate_left
  · rename_i h
    exact Bool.noConfusion ((n4).symm.trans h)
  rename_i hN
  clear hN
  conv => whnf
  repeat first
    | (refine DRAW.seek ?_; repeat (first | refine TRYD.take ?_ | refine TRYD.next ?_); conv => whnf)
    | (refine HOLD.mk (by first | exact trivial | exact ⟨⟨rfl, rfl⟩, trivial⟩ | exact ⟨⟨rfl, rfl⟩, ⟨rfl, rfl⟩, trivial⟩) ?_; (conv => whnf))
    | (refine CALL0.cutBy lvAw _ _ _ _ _ (leL_refl _) (c_usual ..) rfl ?_; conv => whnf)
    | (refine CALL0.by (c_usual ..) rfl ?_; conv => whnf)
    | (refine CALLQ.mk _ _ _ (leL_refl _) (c_usual ..) rfl ?_; conv => whnf)
    | (refine CALL0.cutBy lvAw _ _ _ _ _ (leL_refl _) (h9 ..) rfl ?_; conv => whnf)
    | (refine CALL0.by (h9 ..) rfl ?_; conv => whnf)
    | (refine CALLQ.mk _ _ _ (leL_refl _) (h9 ..) rfl ?_; conv => whnf)
  exact ⟨rfl, rfl⟩
end Go.Proofs.YtkdlegfakefjgaaGreatDoor.Ix

namespace Go.Proofs.YtkdlegfakefjgaaGreatDoor.Ix
open Go.Proofs
set_option maxRecDepth 100000
set_option linter.unusedVariables false
set_option linter.unusedSimpArgs false
variable {gl : Nat → IV}
def Mc.smallB (m : Mc) : Bool := m.err != 0 || (decide (m.fea ≤ 20) && (decide (m.lim ≤ 100) && decide (w64 (10 * m.rate) ≥ m.fea)))
theorem c_rSmall (up : List Ces) (m : Mc) : Cs gl n_nacelleref05_Small up [m.iv] (.bool m.smallB) up := by
  refine mk h_nacelleref05_Small rfl rfl ?_
  unfold Mc.smallB
  cases q0 : (m.err != 0) with
  | true =>
    conv => whnf
    repeat first
      | (refine DRAW.seek ?_; repeat (first | refine TRYD.take ?_ | refine TRYD.next ?_); conv => whnf)
      | (refine HOLD.mk (by first | exact trivial | exact ⟨⟨rfl, rfl⟩, trivial⟩ | exact ⟨⟨rfl, rfl⟩, ⟨rfl, rfl⟩, trivial⟩) ?_; (conv => whnf))
      | (refine CALL0.by (c_rMachine ..) rfl ?_; conv => whnf)
      | (refine CALLQ.mk _ _ _ (leL_refl _) (c_rMachine ..) rfl ?_; conv => whnf)
    split
    rotate_left
    · rename_i h
      exact Bool.noConfusion ((q0).symm.trans h)
    rename_i hN
    clear hN
    conv => whnf
    exact ⟨rfl, rfl⟩
  | false =>
  cases q1 : decide (m.fea ≤ 20) with
  | false =>
    conv => whnf
    repeat first
      | (refine DRAW.seek ?_; repeat (first | refine TRYD.take ?_ | refine TRYD.next ?_); conv => whnf)
      | (refine HOLD.mk (by first | exact trivial | exact ⟨⟨rfl, rfl⟩, trivial⟩ | exact ⟨⟨rfl, rfl⟩, ⟨rfl, rfl⟩, trivial⟩) ?_; (conv => whnf))
      | (refine CALL0.by (c_rMachine ..) rfl ?_; conv => whnf)
      | (refine CALLQ.mk _ _ _ (leL_refl _) (c_rMachine ..) rfl ?_; conv => whnf)
    split
    · rename_i h
      exact Bool.noConfusion ((q0).symm.trans h)
    rename_i hN
    clear hN
    conv => whnf
    split
    · rename_i h
      exact Bool.noConfusion ((q1).symm.trans h)
    rename_i hN
    clear hN
    conv => whnf
    exact ⟨rfl, rfl⟩
  | true =>
  cases q2 : decide (m.lim ≤ 100) with
  | false =>
    conv => whnf
    repeat first
      | (refine DRAW.seek ?_; repeat (first | refine TRYD.take ?_ | refine TRYD.next ?_); conv => whnf)
      | (refine HOLD.mk (by first | exact trivial | exact ⟨⟨rfl, rfl⟩, trivial⟩ | exact ⟨⟨rfl, rfl⟩, ⟨rfl, rfl⟩, trivial⟩) ?_; (conv => whnf))
      | (refine CALL0.by (c_rMachine ..) rfl ?_; conv => whnf)
      | (refine CALLQ.mk _ _ _ (leL_refl _) (c_rMachine ..) rfl ?_; conv => whnf)
    split
    · rename_i h
      exact Bool.noConfusion ((q0).symm.trans h)
    rename_i hN
    clear hN
    conv => whnf
    split
    rotate_left
    · rename_i h
      exact Bool.noConfusion ((q1).symm.trans h)
    rename_i hN
    clear hN
    conv => whnf
    split
    · rename_i h
      exact Bool.noConfusion ((q2).symm.trans h)
    rename_i hN
    clear hN
    conv => whnf
    exact ⟨rfl, rfl⟩
  | true =>
    conv => whnf
    repeat first
      | (refine DRAW.seek ?_; repeat (first | refine TRYD.take ?_ | refine TRYD.next ?_); conv => whnf)
      | (refine HOLD.mk (by first | exact trivial | exact ⟨⟨rfl, rfl⟩, trivial⟩ | exact ⟨⟨rfl, rfl⟩, ⟨rfl, rfl⟩, trivial⟩) ?_; (conv => whnf))
      | (refine CALL0.by (c_rMachine ..) rfl ?_; conv => whnf)
      | (refine CALLQ.mk _ _ _ (leL_refl _) (c_rMachine ..) rfl ?_; conv => whnf)
    split
    · rename_i h
      exact Bool.noConfusion ((q0).symm.trans h)
    rename_i hN
    clear hN
    conv => whnf
    split
    rotate_left
    · rename_i h
      exact Bool.noConfusion ((q1).symm.trans h)
    rename_i hN
    clear hN
    conv => whnf
    split
    rotate_left
    · rename_i h
      exact Bool.noConfusion ((q2).symm.trans h)
    rename_i hN
    clear hN
    conv => whnf
    exact ⟨rfl, rfl⟩
theorem c_own (up : List Ces) (n : Nat) (hn : n ≤ 10000000) (f : Nat → Ac) : Cs gl n_nacellelaw05_own up [.lst none 5 n fun i => (f i).cs] (.lst (some 15) 5 n fun i => (f i).cs) up := by
  refine mk h_nacellelaw05_own rfl rfl ?_
  conv => whnf
  let F : Nat → List IV := fun i => (f i).cs
  refine .mk (α := {i : Nat // i ≤ n}) (fun i => ⟨[(8, .int .i64 i.1), (7, .int .i64 n), (6, .lst none 5 n F), (3, .lst (some 15) 5 i.1 F)], [], up⟩) (fun i => n - i.1) ⟨0, Nat.zero_le _⟩ ⟨?_, trivial, rfl, rfl⟩ ?_
  · exact ⟨leV_refl _, leV_refl _, leV_refl _, rfl, trivial⟩
  rintro ⟨i, hi⟩
  have hw : w64 ((i : Int) + 1) = ((i + 1 : Nat) : Int) := by rw [w64, wrap_in] <;> omega
  by_cases hlt : i < n
  · have q : decide ((i : Int) < n) = true := decide_eq_true (by omega)
    conv => whnf
    split
    rotate_left
    · rename_i h
      exact Bool.noConfusion ((q).symm.trans h)
    rename_i hN
    clear hN
    conv => whnf
    split
    rotate_left
    · rename_i h
      exact Bool.noConfusion ((q).symm.trans h)
    rename_i hN
    clear hN
    conv => whnf
    split
    rotate_left
    · rename_i h
      have h' : decide (i + 1 ≤ 1073741824) = false := h
      simp at h' <;> omega
    conv => whnf
    refine ⟨⟨i + 1, hlt⟩, ⟨⟨leV_int hw, leV_refl _, leV_refl _, ⟨.inr rfl, rfl, rfl, fun j hj => ?_⟩, trivial⟩, trivial, rfl, rfl⟩, (by show n - (i + 1) < n - i; omega)⟩
    show (if j < i then F j else litF 5 (F i) (j - i)) = F j
    split
    · rfl
    · have : j = i := by have : j < i + 1 := hj; omega
      subst this; rw [Nat.sub_self]; rfl
  · have q : decide ((i : Int) < n) = false := decide_eq_false (by omega)
    have : i = n := by omega
    subst this
    conv => whnf
    split
    · rename_i h
      exact Bool.noConfusion ((q).symm.trans h)
    rename_i hN
    clear hN
    conv => whnf
    exact ⟨rfl, rfl⟩
end Go.Proofs.YtkdlegfakefjgaaGreatDoor.Ix

namespace Go.Proofs.YtkdlegfakefjgaaGreatDoor.Ix
abbrev intS : Shp := .int .i64
def intAt (l : List IV) (j : Nat) : Int := match l[j]? with
  | some (.int _ n) => n
  | _ => 0
theorem fit_ints : ∀ (n : Nat) (xs : List IV), FitL (List.replicate n (1, intS)) xs → xs = (List.range n).map fun j => IV.int .i64 (intAt xs j)
  | 0, xs, h => by simpa [FitL] using h
  | n + 1, xs, h => by
    simp only [List.replicate_succ, FitL] at h
    obtain ⟨ys, zs, rfl, hl, ⟨m, rfl, _⟩, h2⟩ := h
    have ih := fit_ints n zs h2
    rw [List.range_succ_eq_map, List.map_cons, List.map_map]
    refine List.cons_eq_cons.2 ⟨rfl, ?_⟩
    show zs = _
    rw [show ((fun j => IV.int .i64 (intAt ([IV.int .i64 m] ++ zs) j)) ∘ Nat.succ) = fun j => IV.int .i64 (intAt zs j) from by funext j; simp [intAt]]
    exact ih
end Go.Proofs.YtkdlegfakefjgaaGreatDoor.Ix

namespace Go.Proofs.YtkdlegfakefjgaaGreatDoor.Ix
end Go.Proofs.YtkdlegfakefjgaaGreatDoor.Ix

namespace Go.Proofs.YtkdlegfakefjgaaGreatDoor.Ix
open Go.Proofs
set_option linter.unusedVariables false
set_option linter.unusedSimpArgs false
abbrev machShp : Shp := .agg [(1, intS), (1, intS), (1, intS), (1, intS), (1, intS), (1, intS), (1, intS)]
theorem fit_mach {v : IV} (h : FitV machShp v) : ∃ m : Mc, v = m.iv := by
  obtain ⟨xs, rfl, h⟩ := h
  have := fit_ints 7 xs h
  exact ⟨⟨intAt xs 0, intAt xs 1, intAt xs 2, intAt xs 3, intAt xs 4, intAt xs 5, intAt xs 6⟩, by rw [this]; simp [intAt, List.range, List.range.loop, Mc.iv]⟩
end Go.Proofs.YtkdlegfakefjgaaGreatDoor.Ix

namespace Go.Proofs.YtkdlegfakefjgaaGreatDoor.Ix
open Go.RowKit
set_option linter.unusedVariables false
theorem laid_in {P : Program} {w : World} {n : String} {d : DataW Unit} : ∀ {l : List (String × DataW Unit)} {ps : List MemPlace}, DataW.LaidVars P w l ps → (n, d) ∈ l →
    ∃ g t cs fuel p, P.globalNamed n = some g ∧ (P.globals[g]?).map (·.type) = some t ∧ w.var? P n = some cs ∧ DataW.trod (fun _ => ()) P w 0 (fun _ => true) false fuel t cs.toList = some (d, p)
  | [], ps, _, hm => by cases hm
  | (m, e) :: r, ps, h, hm => by
    simp only [DataW.LaidVars] at h
    obtain ⟨g, t, cs, fuel, p, q, h1, h2, h3, h4, h5, _⟩ := h
    cases hm with
    | head => exact ⟨g, t, cs, fuel, p, h1, h2, h3, h4⟩
    | tail _ hm => exact laid_in h5 hm
theorem laid_tab {P : Program} {w : World} {laid : List (String × DataW Unit)} (h : laidMetH P laid w) (hp : (laid.all fun x => x.2.handleName?.isNone) = true) {n : String} {d : DataW Unit} {g t : Nat} (hm : (n, d) ∈ laid)
    (hg : P.globalNamed n = some g) (ht : (P.globals[g]?).map (·.type) = some t) {s : Shp} (hs : shpB P s t = true) (hf : flatS s = true) {vs : List Value} (hv : flatD d = vs) :
    (∀ j, w.cell? ⟨g, j, none⟩ = vs[j]?) ∧ ∃ arr el m, w.heap[g]? = some (.cells arr el m) ∧ arr.size = vs.length := by
  rw [MakeChecks.laidMetH_plain _ _ _ hp] at h
  obtain ⟨ps, h, _, _⟩ := h
  obtain ⟨g0, t0, cs0, f0, p0, hg0, ht0, hv0, hd0⟩ := laid_in h hm
  obtain rfl := Option.some.inj (hg.symm.trans hg0)
  obtain rfl := Option.some.inj (ht.symm.trans ht0)
  have hfl := flat_of_trod s _ (shp_ok _ _ hs) hf _ _ _ hd0
  have hcs : cs0.toList = vs := by rw [← hfl]; exact hv
  refine ⟨fun j => ?_, ?_⟩
  · have := World.var?_cell hg0 hv0 j
    rw [← hcs]
    simpa using this
  · unfold World.var? at hv0
    rw [hg0] at hv0
    simp only [Option.bind_some] at hv0
    split at hv0
    · rename_i arr el m he
      cases hv0
      exact ⟨_, _, _, he, by rw [← hcs]; simp⟩
    · cases hv0
theorem D_tab {I : Imm} {g : Nat} (xs : List IV) (vs : List Value) (hl : xs.length = vs.length) (hI : ∀ j v, vs[j]? = some v → I ⟨g, j, none⟩ = some v)
    (hx : ∀ (j : Nat) x, xs[j]? = some x → ∃ k z, x = .int k z ∧ vs[j]? = some (.int k z)) : D I (.vptr xs.length 1 (fun _ => xs) 0 0) (.pointer (some ⟨g, 0, none⟩)) := by
  have hat : ∀ j, j < xs.length → vs[j]? = some (vs.getD j undef) := fun j hj => by
    rw [List.getD_eq_getElem?_getD, List.getElem?_eq_getElem (by omega)]; rfl
  have := D.vptr (I := I) xs.length 1 (fun _ => xs) 0 0 g 0 (fun _ j => vs.getD j undef) (by decide) (fun _ _ => rfl)
    (fun i j hi hj => by
      have : i = 0 := by omega
      subst this
      simp only [Nat.zero_mul, Nat.zero_add]
      exact hI j _ (hat j hj))
    (fun i j hi hj => by
      obtain ⟨k, z, _, e⟩ := hx j _ (List.getElem?_eq_getElem hj)
      show (vs.getD j undef).oneCell' = true
      rw [List.getD_eq_getElem?_getD, e]; rfl)
    (fun i j x hi hxj => by
      obtain ⟨k, z, rfl, e⟩ := hx j x hxj
      show D I _ (vs.getD j undef)
      rw [List.getD_eq_getElem?_getD, e]; exact .int k z)
  simpa using this
theorem D_tabG {I : Imm} {g : Nat} (xs : List IV) (vs : List Value) (hl : xs.length = vs.length) (hI : ∀ j v, vs[j]? = some v → I ⟨g, j, none⟩ = some v)
    (hx : ∀ (j : Nat) x, xs[j]? = some x → ∃ v, vs[j]? = some v ∧ v.oneCell' = true ∧ D I x v) : D I (.vptr xs.length 1 (fun _ => xs) 0 0) (.pointer (some ⟨g, 0, none⟩)) := by
  have hat : ∀ j, j < xs.length → vs[j]? = some (vs.getD j undef) := fun j hj => by
    rw [List.getD_eq_getElem?_getD, List.getElem?_eq_getElem (by omega)]; rfl
  have := D.vptr (I := I) xs.length 1 (fun _ => xs) 0 0 g 0 (fun _ j => vs.getD j undef) (by decide) (fun _ _ => rfl)
    (fun i j hi hj => by
      have : i = 0 := by omega
      subst this
      simp only [Nat.zero_mul, Nat.zero_add]
      exact hI j _ (hat j hj))
    (fun i j hi hj => by
      obtain ⟨v, e, h1, _⟩ := hx j _ (List.getElem?_eq_getElem hj)
      show (vs.getD j undef).oneCell' = true
      rw [List.getD_eq_getElem?_getD, e]; exact h1)
    (fun i j x hi hxj => by
      obtain ⟨v, e, _, h2⟩ := hx j x hxj
      show D I _ (vs.getD j undef)
      rw [List.getD_eq_getElem?_getD, e]; exact h2)
  simpa using this
end Go.Proofs.YtkdlegfakefjgaaGreatDoor.Ix
