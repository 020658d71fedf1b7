/-
  Ix13: regions in the order of the text, code, loops.
-/
import Derived.Test.YtllmejkmogepjaaDoorX12
import Derived.Orders
namespace Go.Proofs.YtllmejkmogepjaaDoor.Ix
set_option linter.unusedVariables false

section
variable {Γ : Env} {S : St} {a : Act} {w : World} {I : Imm} {X : Nat → Prop} {β : Beta} {σ : Nat → Sig} {K : St → Prop}

theorem dstOf_eq : ∀ (l : List Oper) (j : Nat), dstOf l j = (l[j]?).bind (·.dst)
  | [], j => by simp [dstOf]
  | o :: r, 0 => by simp [dstOf]
  | o :: r, n + 1 => by simp [dstOf, dstOf_eq r n]

theorem Rel.tell (r : Rel Γ S a w I X β σ) {t : Nat} {v : IV} (hv : V I β (σ 0) v (a.tmps.getD t undef)) : Rel Γ ⟨(t, v) :: S.tm, S.ce, S.up⟩ a w I X β σ := by
  refine ⟨fun i => ?_, r.df, r.nt, r.mem, r.own⟩
  simp only [look_cons]
  split
  · rename_i h; subst h; exact hv
  · exact r.tm i

theorem yielded_of {ops : Array Oper} {j t : Nat} {b : Bool} {tmps : Array Value} (hd : dstOf ops.toList j = some t) (hv : tmps.getD t undef = .bool b) : yielded ops tmps j = some b := by
  rw [dstOf_eq] at hd
  simp only [Array.getElem?_toList] at hd
  unfold yielded
  rw [hd]
  have hlt : t < tmps.size := by
    rcases Nat.lt_or_ge t tmps.size with h | h
    · exact h
    · simp [Array.getD_eq_getD_getElem?, Array.getElem?_eq_none h, undef] at hv
  have : tmps[t]? = some (.bool b) := by
    rw [Array.getElem?_eq_getElem hlt]
    simpa [hlt] using hv
  simp [this]

theorem D.und {I : Imm} : D I (.tup []) undef := .tup [] #[] rfl (fun j x h => by simp at h)

theorem V.und_inv {I : Imm} {β : Beta} {s : Sig} {v : Value} (h : V I β s (.tup []) v) : v = undef := by
  obtain ⟨vs, rfl, h1, _⟩ := h.tup_inv
  have : vs = #[] := Array.eq_empty_of_size_eq_zero h1.symm
  rw [this]; rfl

theorem yielded_und {ops : Array Oper} {j t : Nat} {tmps : Array Value} (hd : dstOf ops.toList j = some t) (hv : tmps.getD t undef = undef) : yielded ops tmps j = none := by
  rw [dstOf_eq] at hd
  simp only [Array.getElem?_toList] at hd
  unfold yielded
  rw [hd]
  simp only [Option.bind_some]
  cases ht : tmps[t]? with
  | none => rfl
  | some x =>
    have : x = undef := by rw [Array.getD_eq_getD_getElem?, ht] at hv; exact hv
    rw [this]; rfl

/-- One operation of a region, its guard decided. -/
def iop1 (C : Con) (Γ : Env) (all : List Oper) (o : Oper) (K : St → Prop) (S : St) : Prop :=
  match o.guard with
  | none => iop C Γ S o K
  | some (j, want) => match dstOf all j with
    | none => False
    | some t => match look S.tm t with
      | .bool b => brk b fun b => putT Γ S (some t) (.bool b) fun S => match want, b with
        | true, true | false, false => iop C Γ S o K
        | _, _ => putT Γ S o.dst (.tup []) K
      | .tup [] => putT Γ S o.dst (.tup []) K
      | _ => False

theorem iops_cons {C : Con} {all r : List Oper} {o : Oper} : iops C Γ all (o :: r) K S = iop1 C Γ all o (fun S' => iops C Γ all r K S') S := rfl

theorem brk_spec {b : Bool} {k : Bool → Prop} (h : brk b k) : k b := by cases b <;> exact h

/-- What the model does at one operation of a region. -/
theorem iop1_sound {C : Con} (hT : TOK Γ.P Γ.T) (hC : HC C Γ) {ops : Array Oper} (o : Oper)
    (h : iop1 C Γ ops.toList o K S) (r : Rel Γ S a w I X β σ) (Q : Exit → Act → World → Prop) :
    if Region.wanted o (yielded ops a.tmps) then o.wp Γ.P a w (Aft Γ K I X w β σ) Q else Aft Γ K I X w β σ (a.put o.dst undef) w := by
  unfold iop1 at h
  split at h
  · rename_i hg
    have : Region.wanted o (yielded ops a.tmps) = true := by simp [Region.wanted, hg]
    rw [if_pos this]
    exact iop_all hT hC o h r Q
  · rename_i j want hg
    split at h
    · exact h.elim
    · rename_i t hd
      split at h
      · rename_i b hb
        have hv := r.tm t
        rw [hb] at hv
        have hval := hv.bool_inv
        have hy := yielded_of hd hval
        have h := brk_spec h
        simp only [putT] at h
        split at h
        · have r' := r.tell (t := t) (v := .bool b) (by rw [hval]; exact .data (.bool b))
          cases want <;> cases b <;> simp only at h
          · have : Region.wanted o (yielded ops a.tmps) = true := by simp [Region.wanted, hg, hy]
            rw [if_pos this]; exact iop_all hT hC o h r' Q
          · have : ¬ Region.wanted o (yielded ops a.tmps) = true := by simp [Region.wanted, hg, hy]
            rw [if_neg this]
            exact put_aft h r' (.data D.und)
          · have : ¬ Region.wanted o (yielded ops a.tmps) = true := by simp [Region.wanted, hg, hy]
            rw [if_neg this]
            exact put_aft h r' (.data D.und)
          · have : Region.wanted o (yielded ops a.tmps) = true := by simp [Region.wanted, hg, hy]
            rw [if_pos this]; exact iop_all hT hC o h r' Q
        · exact h.elim
      · rename_i hb
        have hv := r.tm t
        rw [hb] at hv
        have hy := yielded_und hd hv.und_inv
        have : ¬ Region.wanted o (yielded ops a.tmps) = true := by simp [Region.wanted, hg, hy]
        rw [if_neg this]
        exact put_aft h r (.data D.und)
      · exact h.elim

theorem Aft.trans {K K' : St → Prop} {I' : Imm} {w' : World} {β' : Beta} {σ' : Nat → Sig} {a'' : Act} {w'' : World} (he : Ext I X w I' w') (ha : Above β β' σ σ') (h : Aft Γ K I' X w' β' σ' a'' w'') : Aft Γ K I X w β σ a'' w'' :=
  let ⟨S', I2, β2, σ2, h1, h2, h3, h4⟩ := h
  ⟨S', I2, β2, σ2, h1, h2, he.trans h3, ha.trans h4⟩

theorem iops_sound {C : Con} (hT : TOK Γ.P Γ.T) (hC : HC C Γ) {ops : Array Oper} {Q : Exit → Act → World → Prop}
    (hQ : ∀ a' w', Aft Γ K I X w β σ a' w' → Q .normal a' w') :
    ∀ (rest : List Oper) (k : Nat), (∀ j, rest[j]? = ops[k + j]?) → ∀ (S' : St) (a' : Act) (w' : World) (I' : Imm) (β' : Beta) (σ' : Nat → Sig),
      iops C Γ ops.toList rest K S' → Rel Γ S' a' w' I' X β' σ' → Ext I X w I' w' → Above β β' σ σ' → wpOps Γ.P ops Q (List.range' k rest.length) a' w'
  | [], k, _, S', a', w', I', β', σ', h, r, he, ha => by
    simp only [List.length_nil, List.range'_zero, wpOps]
    exact hQ _ _ ⟨S', I', β', σ', h, r, he, ha⟩
  | o :: rest, k, hk, S', a', w', I', β', σ', h, r, he, ha => by
    have h0 : ops[k]? = some o := by have := hk 0; simpa using this.symm
    rw [iops_cons] at h
    have h1 := iop1_sound hT hC (ops := ops) o h r Q
    have next : ∀ a2 w2, Aft Γ (fun S' => iops C Γ ops.toList rest K S') I' X w' β' σ' a2 w2 → wpOps Γ.P ops Q (List.range' (k + 1) rest.length) a2 w2 := by
      rintro a2 w2 ⟨S2, I2, β2, σ2, k1, k2, k3, k4⟩
      exact iops_sound hT hC hQ rest (k + 1) (fun j => by have := hk (j + 1); simp at this; rw [this]; congr 1; omega) S2 a2 w2 I2 β2 σ2 k1 k2 (he.trans k3) (ha.trans k4)
    simp only [List.length_cons, List.range'_succ, wpOps, h0]
    split
    · rename_i hw
      rw [if_pos hw] at h1
      exact .inl (Oper.wp_mono next h1)
    · rename_i hw
      rw [if_neg hw] at h1
      exact next _ _ h1

end
end Go.Proofs.YtllmejkmogepjaaDoor.Ix
