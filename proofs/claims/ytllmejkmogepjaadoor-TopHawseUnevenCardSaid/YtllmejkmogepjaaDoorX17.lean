/-
  Ix17: what an operation of a front yields: one value, which hangs on what the operation looks at alone.
-/
import Derived.Test.YtllmejkmogepjaaDoorX13
namespace Go.Proofs.YtllmejkmogepjaaDoor.Ix
set_option linter.unusedVariables false
set_option linter.unusedSimpArgs false

/-- The same cells, and the same in the temporaries looked at. -/
structure Alike (ts : List Nat) (S S' : St) : Prop where
  tm : ∀ t, t ∈ ts → look S.tm t = look S'.tm t
  ce : S.ce = S'.ce
  up : S.up = S'.up

theorem mem_opTs {x : Operand} {t : Nat} : ∀ {l : List Operand}, x ∈ l → t ∈ opT x → t ∈ opTs l
  | y :: r, h, ht => by
    (try simp only [opTs, List.mem_append])
    rcases List.mem_cons.1 h with rfl | h
    · exact .inl ht
    · exact .inr (mem_opTs h ht)

section
variable {C : Con} {Γ : Env} {S S' : St}

theorem evo_alike {x : Operand} (h : ∀ t, t ∈ opT x → look S.tm t = look S'.tm t) : evo Γ S x = evo Γ S' x := by
  cases x <;> simp [evo]
  exact h _ (by simp [opT])

theorem evo_alikes {l : List Operand} {x : Operand} (hx : x ∈ l) (h : Alike (opTs l) S S') : evo Γ S x = evo Γ S' x :=
  evo_alike fun t ht => h.tm t (mem_opTs hx ht)

theorem evoL_alike {l : List Operand} (h : ∀ x ∈ l, evo Γ S x = evo Γ S' x) : evoL Γ S l = evoL Γ S' l := by
  rw [evoL_eq, evoL_eq]
  exact List.map_congr_left h

theorem buildI_alike {place : Nat → Option (Nat × Nat)} {K : List IV → Prop} : ∀ (parts : List (Nat × Operand)) (z : List IV), (∀ x ∈ parts.map (·.2), evo Γ S x = evo Γ S' x) → buildI Γ S place parts z K → buildI Γ S' place parts z K
  | [], z, _, h => h
  | (i, x) :: r, z, hx, h => by
    simp only [buildI, ev_eq] at h ⊢
    split at h
    · exact h.elim
    · rename_i off sz hp
      (try simp only [hp])
      rw [← hx x (by simp)]
      unfold cellsK at h ⊢
      split at h
      · rename_i c hc
        (try simp only [hc])
        split at h
        · rename_i hn
          (try simp only [hn])
          split at h
          · rename_i z' hz
            (try simp only [hz])
            exact buildI_alike r z' (fun y hy => hx y (by simp at hy ⊢; exact .inr hy)) h
          · exact h.elim
        · exact h.elim
      · exact h.elim

theorem loadI_alike {t : Ty} {p : IV} {K : IV → Prop} (hc : S.ce = S'.ce) (hu : S.up = S'.up) (h : loadI S t p K) : loadI S' t p K := by
  unfold loadI at h ⊢
  rw [hc, hu] at h
  exact h

theorem ival_alike {o : Oper} {K : IV → Prop} (h : Alike (opTs o.op.operands.toList) S S') (hv : ival Γ S o K) : ival Γ S' o K := by
  have he : ∀ x ∈ o.op.operands.toList, evo Γ S x = evo Γ S' x := fun x hx => evo_alikes hx h
  obtain ⟨dst, op, type, pos, after, guard⟩ := o
  cases op with
  | move x => simp only [ival, ev] at hv ⊢; rw [← he x (by simp [Op.operands])]; exact hv
  | assign x => simp only [ival, ev] at hv ⊢; rw [← he x (by simp [Op.operands])]; exact hv
  | pick c a b =>
    simp only [ival, ev] at hv ⊢
    rw [← he c (by simp [Op.operands]), ← he a (by simp [Op.operands]), ← he b (by simp [Op.operands])]; exact hv
  | build t parts =>
    have hp : ∀ x ∈ parts.toList.map (·.2), evo Γ S x = evo Γ S' x := fun x hx => he x (by simpa [Op.operands] using hx)
    simp only [ival] at hv ⊢
    split at hv
    · rename_i hk; (try simp only [hk]); exact buildI_alike _ _ hp hv
    · rename_i hk; (try simp only [hk]); exact buildI_alike _ _ hp hv
    · exact hv.elim
  | load t x =>
    simp only [ival] at hv ⊢
    unfold tyK at hv ⊢
    split at hv
    · rename_i hn; (try simp only [hn])
      rw [← he x (by simp [Op.operands])]
      exact loadI_alike h.ce h.up hv
    · exact hv.elim
  | nilCheck x => simp only [ival, ev] at hv ⊢; rw [← he x (by simp [Op.operands])]; exact hv
  | binOp op t x y e => simp only [ival] at hv ⊢; rw [← he x (by simp [Op.operands]), ← he y (by simp [Op.operands])]; exact hv
  | unOp op t x => simp only [ival] at hv ⊢; rw [← he x (by simp [Op.operands])]; exact hv
  | convert src d x => simp only [ival] at hv ⊢; rw [← he x (by simp [Op.operands])]; exact hv
  | fieldAddr s x i => simp only [ival] at hv ⊢; rw [← he x (by simp [Op.operands])]; exact hv
  | field s x i => simp only [ival] at hv ⊢; rw [← he x (by simp [Op.operands])]; exact hv
  | indexAddr s x i => simp only [ival] at hv ⊢; rw [← he x (by simp [Op.operands]), ← he i (by simp [Op.operands])]; exact hv
  | index s x i => simp only [ival] at hv ⊢; rw [← he x (by simp [Op.operands]), ← he i (by simp [Op.operands])]; exact hv
  | slice t x lo hi mx =>
    cases mx with
    | some m => simp [ival] at hv
    | none =>
      simp only [ival] at hv ⊢
      have h1 : lo.map (evo Γ S) = lo.map (evo Γ S') := by
        cases lo with
        | none => rfl
        | some y => (try simp only [Option.map_some]); rw [he y (by simp [Op.operands])]
      have h2 : hi.map (evo Γ S) = hi.map (evo Γ S') := by
        cases hi with
        | none => rfl
        | some y => (try simp only [Option.map_some]); rw [he y (by simp [Op.operands])]
      rw [← he x (by simp [Op.operands]), ← h1, ← h2]; exact hv
  | extract x i => simp only [ival] at hv ⊢; rw [← he x (by simp [Op.operands])]; exact hv
  | makeFunc fn first captured =>
    cases fn with
    | func f =>
      simp only [ival] at hv ⊢
      rw [← evoL_alike (S := S) (S' := S') (l := first.toList) (fun x hx => he x (by simp [Op.operands] at hx ⊢; exact .inl hx)),
        ← evoL_alike (S := S) (S' := S') (l := captured.toList) (fun x hx => he x (by simp [Op.operands] at hx ⊢; exact .inr hx))]
      exact hv
    | _ => simp [ival] at hv
  | _ => simp [ival] at hv

theorem pcall_alike {o : Oper} {c : Call} {K : IV → Prop} (h : Alike (opTs c.operands.toList) S S') (hv : pcall C Γ S o c K) : pcall C Γ S' o c K := by
  have he : ∀ x ∈ c.operands.toList, evo Γ S x = evo Γ S' x := fun x hx => evo_alikes hx h
  have ha : evoL Γ S c.args.toList = evoL Γ S' c.args.toList := evoL_alike fun x hx => he x (by simp [Call.operands] at hx ⊢; exact .inr hx)
  unfold pcall at hv ⊢
  rw [← ha]
  split at hv
  · rename_i f hf
    (try simp only [hf])
    rw [← he f (by simp [Call.operands, hf])]
    split at hv
    · rename_i g first captured hx
      (try simp only [hx])
      rw [fvL_eq] at hv ⊢
      obtain ⟨as, r, r', h0, h1, h2, h3⟩ := hv
      rw [h.ce, h.up] at h1
      exact ⟨as, r, r', h0, h1, h2, h3⟩
    · exact hv.elim
  · rename_i b hb
    (try simp only [hb]); exact hv
  · exact hv.elim

theorem pval_alike {o : Oper} {K : IV → Prop} (h : Alike (opTs o.op.operands.toList) S S') (hv : pval C Γ S o K) : pval C Γ S' o K := by
  unfold pval at hv ⊢
  split at hv
  · exact hv.elim
  · exact hv.elim
  · exact hv.elim
  · rename_i t len parts hop
    (try simp only [hop])
    have hp : ∀ x ∈ parts.toList.map (·.2), evo Γ S x = evo Γ S' x := fun x hx => evo_alikes (l := o.op.operands.toList) (by rw [hop]; simpa [Op.operands] using hx) h
    split at hv
    · rename_i e d hk hd
      (try simp only [hk, hd])
      split at hv
      · rename_i h1 h2
        (try simp only [h1, h2])
        exact buildI_alike _ _ hp hv
      · exact hv.elim
    · exact hv.elim
  · rename_i c hop
    (try simp only [hop])
    rw [hop] at h
    exact pcall_alike h hv
  · exact ival_alike h hv

theorem opTag_alike {d : Nat} : ∀ {l : List Operand}, (∀ t, t ∈ opTs l → look S.tm t = look S'.tm t) → opTag d S l = opTag d S' l
  | [], _ => rfl
  | .tmp t :: r, h => by
    (try simp only [opTag])
    rw [h t (by simp [opTs, opT]), opTag_alike (l := r) (fun u hu => h u (by simp [opTs, hu]))]
  | .const _ :: r, h | .global _ :: r, h | .func _ :: r, h => by
    (try simp only [opTag])
    exact opTag_alike (l := r) (fun u hu => h u (by simp [opTs, hu]))

theorem tagOK_alike {o : Oper} {v : IV} (h : ∀ t, t ∈ opTs o.op.operands.toList → look S.tm t = look S'.tm t) : ∀ (cr : List Nat), tagOK cr S o v = tagOK cr S' o v
  | [] => rfl
  | d :: r => by (try simp only [tagOK]); rw [opTag_alike h, tagOK_alike h r]

/-! ### One value -/

theorem chk_iff {b : Bool} {p : Prop} : chk b p ↔ b = true ∧ p := by cases b <;> simp [chk]

theorem part1_wit {ag : Bool} {off size : Nat} {xs : List IV} {K : IV → Prop} (h : part1 ag off size xs K) : ∃ v, K v ∧ ∀ K' : IV → Prop, K' v → part1 ag off size xs K' := by
  unfold part1 at h ⊢
  split at h
  · split at h
    · rename_i t ht; (try simp only [ht]); exact ⟨_, h, fun K' h => h⟩
    · exact h.elim
  · split at h
    · rename_i t ht; (try simp only [ht]); exact ⟨_, h, fun K' h => h⟩
    · exact h.elim

theorem buildI_wit {place : Nat → Option (Nat × Nat)} {K : List IV → Prop} : ∀ (parts : List (Nat × Operand)) (z : List IV), buildI Γ S place parts z K → ∃ v, K v ∧ ∀ K' : List IV → Prop, K' v → buildI Γ S place parts z K'
  | [], z, h => ⟨z, h, fun K' h => h⟩
  | (i, x) :: r, z, h => by
    simp only [buildI, ev_eq] at h ⊢
    split at h
    · exact h.elim
    · rename_i off sz hp
      unfold cellsK at h ⊢
      split at h
      · rename_i c hc
        split at h
        · rename_i hn
          split at h
          · rename_i z' hz
            obtain ⟨v, h1, h2⟩ := buildI_wit r z' h
            refine ⟨v, h1, fun K' hk => ?_⟩
            (try simp only [hc, hn, hz])
            exact h2 K' hk
          · exact h.elim
        · exact h.elim
      · exact h.elim

theorem bin_wit {op : BinOp} {t : Ty} {x y : IV} {K : IV → Prop} (h : bin op t x y K) : ∃ v, K v ∧ ∀ K' : IV → Prop, K' v → bin op t x y K' := by
  unfold bin at h ⊢
  split at h
  · split at h
    · rw [chk_iff] at h; exact ⟨_, h.2, fun K' hk => chk_iff.2 ⟨h.1, hk⟩⟩
    · rw [chk_iff] at h; exact ⟨_, h.2, fun K' hk => chk_iff.2 ⟨h.1, hk⟩⟩
    · split at h
      · exact h.elim
      · rename_i hd
        (try simp only [hd])
        split at h
        · exact ⟨_, h, fun K' h => h⟩
        · exact ⟨_, h, fun K' h => h⟩
        · exact ⟨_, h, fun K' h => h⟩
        · rw [chk_iff] at h; exact ⟨_, h.2, fun K' hk => chk_iff.2 ⟨h.1, hk⟩⟩
        · rw [chk_iff] at h; exact ⟨_, h.2, fun K' hk => chk_iff.2 ⟨h.1, hk⟩⟩
        · exact ⟨_, h, fun K' h => h⟩
        · exact ⟨_, h, fun K' h => h⟩
        · exact ⟨_, h, fun K' h => h⟩
        · exact ⟨_, h, fun K' h => h⟩
        · exact ⟨_, h, fun K' h => h⟩
        · exact ⟨_, h, fun K' h => h⟩
        · exact h.elim
  · split at h
    · rw [chk_iff] at h; exact ⟨_, h.2, fun K' hk => chk_iff.2 ⟨h.1, hk⟩⟩
    · exact ⟨_, h, fun K' h => h⟩
    · exact ⟨_, h, fun K' h => h⟩
    · exact h.elim
  · split at h
    · rename_i h1 h2; (try simp only [h1, h2]); exact ⟨_, h, fun K' h => h⟩
    · rename_i h1 h2; (try simp only [h1, h2]); exact ⟨_, h, fun K' h => h⟩
    · exact h.elim
  · split at h
    · exact h.elim
    · rename_i k ks hk
      (try simp only [hk])
      split at h
      · rename_i he; (try simp only [he]); exact ⟨_, h, fun K' h => h⟩
      · rename_i he; (try simp only [he]); exact ⟨_, h, fun K' h => h⟩
      · exact h.elim
  · exact h.elim

theorem addI_wit {p : IV} {n : Nat} {K : IV → Prop} (h : addI p n K) : ∃ v, K v ∧ ∀ K' : IV → Prop, K' v → addI p n K' := by
  unfold addI at h ⊢
  split at h
  · exact ⟨_, h, fun K' h => h⟩
  · exact ⟨_, h, fun K' h => h⟩
  · exact h.elim

theorem idx_wit {i : IV} {n : Nat} {K : Nat → Prop} (h : idx i n K) : ∃ v, K v ∧ ∀ K' : Nat → Prop, K' v → idx i n K' := by
  unfold idx at h ⊢
  split at h
  · rw [chk_iff, chk_iff] at h
    exact ⟨_, h.2.2, fun K' hk => by rw [chk_iff, chk_iff]; exact ⟨h.1, h.2.1, hk⟩⟩
  · exact h.elim

theorem loadI_wit {t : Ty} {p : IV} {K : IV → Prop} (h : loadI S t p K) : ∃ v, K v ∧ ∀ K' : IV → Prop, K' v → loadI S t p K' := by
  unfold loadI at h ⊢
  split at h
  · split at h
    · rename_i hc; (try simp only [hc]); exact part1_wit h
    · exact h.elim
  · split at h
    · rename_i hc; (try simp only [hc])
      obtain ⟨v, h1, h2⟩ := part1_wit h
      exact ⟨_, h1, fun K' hk => h2 _ hk⟩
    · exact h.elim
  · exact part1_wit h
  · exact h.elim

theorem sliceI_wit {t : Ty} {x : IV} {lo hi : Option IV} {K : IV → Prop} (h : sliceI Γ t x lo hi K) : ∃ v, K v ∧ ∀ K' : IV → Prop, K' v → sliceI Γ t x lo hi K' := by
  unfold sliceI at h ⊢
  split at h
  · split at h
    · rename_i hl hh
      simp only [chk_iff] at h
      (try simp only [hl, hh, chk_iff])
      exact ⟨_, h.2.2.2, fun K' hk => ⟨h.1, h.2.1, h.2.2.1, hk⟩⟩
    · exact h.elim
  · split at h
    · rename_i hl hh hn
      simp only [chk_iff] at h
      (try simp only [hl, hh, hn, chk_iff])
      exact ⟨_, h.2.2.2, fun K' hk => ⟨h.1, h.2.1, h.2.2.1, hk⟩⟩
    · exact h.elim
  · exact h.elim

theorem minI_wit {x y : IV} {K : IV → Prop} (h : minI x y K) : ∃ v, K v ∧ ∀ K' : IV → Prop, K' v → minI x y K' := by
  unfold minI at h ⊢
  split at h
  · exact ⟨_, h, fun K' h => h⟩
  · exact h.elim
theorem maxI_wit {x y : IV} {K : IV → Prop} (h : maxI x y K) : ∃ v, K v ∧ ∀ K' : IV → Prop, K' v → maxI x y K' := by
  unfold maxI at h ⊢
  split at h
  · exact ⟨_, h, fun K' h => h⟩
  · exact h.elim

theorem ival_wit {o : Oper} {K : IV → Prop} (hv : ival Γ S o K) : ∃ v, K v ∧ ∀ K' : IV → Prop, K' v → ival Γ S o K' := by
  obtain ⟨dst, op, type, pos, after, guard⟩ := o
  cases op with
  | move x => simp only [ival, ev_eq] at hv ⊢; exact ⟨_, hv, fun K' h => h⟩
  | assign x => simp only [ival, ev_eq] at hv ⊢; exact ⟨_, hv, fun K' h => h⟩
  | pick c a b =>
    simp only [ival, ev_eq] at hv ⊢
    split at hv
    · rename_i b hb
      split at hv
      · exact ⟨_, hv, fun K' h => h⟩
      · exact ⟨_, hv, fun K' h => h⟩
    · exact hv.elim
  | build t parts =>
    simp only [ival] at hv ⊢
    split at hv
    · rename_i hk; obtain ⟨v, h1, h2⟩ := buildI_wit _ _ hv; exact ⟨_, h1, fun K' h => h2 _ h⟩
    · rename_i hk; obtain ⟨v, h1, h2⟩ := buildI_wit _ _ hv; exact ⟨_, h1, fun K' h => h2 _ h⟩
    · exact hv.elim
  | load t x =>
    simp only [ival, fv_eq] at hv ⊢
    unfold tyK at hv ⊢
    split at hv
    · exact loadI_wit hv
    · exact hv.elim
  | nilCheck x =>
    simp only [ival, ev_eq] at hv ⊢
    split at hv
    · exact ⟨_, hv, fun K' h => h⟩
    · exact ⟨_, hv, fun K' h => h⟩
    · exact ⟨_, hv, fun K' h => h⟩
    · exact hv.elim
  | binOp op t x y e => simp only [ival] at hv ⊢; exact bin_wit hv
  | unOp op t x =>
    simp only [ival] at hv ⊢
    split at hv
    · exact ⟨_, hv, fun K' h => h⟩
    · exact ⟨_, hv, fun K' h => h⟩
    · exact hv.elim
  | convert src d x =>
    simp only [ival] at hv ⊢
    unfold tyK at hv ⊢
    split at hv
    · split at hv
      · rename_i hk hx
        split at hv
        · rename_i hz; (try simp only []); exact ⟨_, hv, fun K' h => h⟩
        · exact hv.elim
      · exact hv.elim
    · exact hv.elim
  | fieldAddr s x i =>
    simp only [ival] at hv ⊢
    split at hv
    · split at hv
      · exact addI_wit hv
      · exact hv.elim
    · exact hv.elim
  | field s x i =>
    simp only [ival, fv_eq] at hv ⊢
    split at hv
    · split at hv
      · exact part1_wit hv
      · exact hv.elim
    · exact hv.elim
  | indexAddr s x i =>
    simp only [ival] at hv ⊢
    split at hv
    · obtain ⟨j, h1, h2⟩ := idx_wit hv
      obtain ⟨v, h3, h4⟩ := addI_wit h1
      exact ⟨v, h3, fun K' hk => h2 _ (h4 K' hk)⟩
    · obtain ⟨j, h1, h2⟩ := idx_wit hv
      split at h1
      · rename_i hn
        refine ⟨_, h1, fun K' hk => h2 _ ?_⟩
        (try simp only [hn]); exact hk
      · exact h1.elim
    · exact hv.elim
  | index s x i =>
    simp only [ival, fv_eq] at hv ⊢
    split at hv
    · obtain ⟨j, h1, h2⟩ := idx_wit hv
      obtain ⟨v, h3, h4⟩ := part1_wit h1
      exact ⟨v, h3, fun K' hk => h2 _ (h4 K' hk)⟩
    · obtain ⟨j, h1, h2⟩ := idx_wit hv
      exact ⟨_, h1, fun K' hk => h2 _ hk⟩
    · exact hv.elim
  | slice t x lo hi mx =>
    cases mx with
    | some m => simp [ival] at hv
    | none => simp only [ival] at hv ⊢; exact sliceI_wit hv
  | extract x i =>
    simp only [ival, fv_eq] at hv ⊢
    split at hv
    · split at hv
      · exact ⟨_, hv, fun K' h => h⟩
      · exact hv.elim
    · exact hv.elim
  | makeFunc fn first captured =>
    cases fn with
    | func f => simp only [ival, fvL_eq] at hv ⊢; exact ⟨_, hv, fun K' h => h⟩
    | _ => simp [ival] at hv
  | _ => simp [ival] at hv

theorem pappend_wit {d e : Nat} {s x : IV} {K : IV → Prop} (h : pappend d e s x K) : ∃ v, K v ∧ ∀ K' : IV → Prop, K' v → pappend d e s x K' := by
  unfold pappend at h ⊢
  split at h
  · split at h
    · exact ⟨_, h, fun K' h => h⟩
    · exact ⟨_, h, fun K' h => h⟩
    · exact h.elim
  · split at h
    · exact h.elim
    · rename_i hn
      (try simp only [hn])
      split at h
      · rw [chk_iff] at h; exact ⟨_, h.2, fun K' hk => chk_iff.2 ⟨h.1, hk⟩⟩
      · exact h.elim
  · exact h.elim

theorem pcall_wit {o : Oper} {c : Call} {K : IV → Prop} (hv : pcall C Γ S o c K) : ∃ v, K v ∧ ∀ K' : IV → Prop, K' v → pcall C Γ S o c K' := by
  unfold pcall at hv ⊢
  split at hv
  · rename_i f hf
    split at hv
    · rename_i g first captured hx
      rw [fvL_eq] at hv
      obtain ⟨as, r, r', h0, h1, h2, h3⟩ := hv
      rw [fv_eq] at h3
      refine ⟨r', h3, fun K' hk => ?_⟩
      rw [fvL_eq]
      exact ⟨as, r, r', h0, h1, h2, by rw [fv_eq]; exact hk⟩
    · exact hv.elim
  · rename_i b hb
    simp only [fvL_eq] at hv ⊢
    split at hv
    · rename_i x hx
      split at hv
      · rename_i t ht
        (try simp only [ht])
        split at hv
        · rename_i hk; (try simp only [hk]); exact ⟨_, hv, fun K' h => h⟩
        · rename_i hk; (try simp only [hk]); exact ⟨_, hv, fun K' h => h⟩
        · rename_i hk; (try simp only [hk]); exact ⟨_, hv, fun K' h => h⟩
        · exact hv.elim
      · exact hv.elim
    · rename_i x y hx; exact minI_wit hv
    · rename_i x y hx; exact maxI_wit hv
    · rename_i s x hx
      split at hv
      · rename_i d t t' hd ht
        (try simp only [hd, ht])
        split at hv
        · rename_i e h1 h2; (try simp only [h1, h2]); exact pappend_wit hv
        · exact hv.elim
      · exact hv.elim
    · exact hv.elim
  · exact hv.elim

theorem pval_wit {o : Oper} {K : IV → Prop} (hv : pval C Γ S o K) : ∃ v, K v ∧ ∀ K' : IV → Prop, K' v → pval C Γ S o K' := by
  unfold pval at hv ⊢
  split at hv
  · exact hv.elim
  · exact hv.elim
  · exact hv.elim
  · rename_i t len parts hop
    split at hv
    · rename_i e d hk hd
      (try simp only [hk, hd])
      split at hv
      · rename_i h1 h2
        (try simp only [h1, h2])
        obtain ⟨xs, h3, h4⟩ := buildI_wit _ _ hv
        split at h3
        · rename_i hn
          split at h3
          · refine ⟨_, h3, fun K' hk => h4 _ ?_⟩
            (try simp only [hn]); exact hk
          · rw [fvL_eq] at h3
            refine ⟨_, h3, fun K' hk => h4 _ ?_⟩
            (try simp only [hn, fvL_eq]); exact hk
        · exact h3.elim
      · exact hv.elim
    · exact hv.elim
  · exact pcall_wit hv
  · exact ival_wit hv

/-! ### It is what the operation does -/

theorem untag_none {d : Nat} {K : St → Prop} (h1 : tmTag d S.tm = false) (h2 : ceTag d S.ce = false) (h : K S) : untag d S K := by
  obtain ⟨tm, ce, up⟩ := S
  simp only at h1 h2
  (try simp only [untag, h1, h2])
  exact h

theorem pval_iop {o : Oper} {K : St → Prop} (hn : ∀ d, o.dst = some d → creates o = true → tmTag d S.tm = false ∧ ceTag d S.ce = false)
    (hv : pval C Γ S o fun v => putT Γ S o.dst v K) : iop C Γ S o K := by
  obtain ⟨dst, op, type, pos, after, guard⟩ := o
  cases op with
  | alloc t => simp [pval] at hv
  | box t x => simp [pval] at hv
  | store t x y => simp [pval] at hv
  | buildSlice t len parts =>
    simp only [pval] at hv
    (try simp only [iop])
    split at hv
    · rename_i e d hk
      simp only at hn
      obtain ⟨n1, n2⟩ := hn d rfl rfl
      split at hv
      · rename_i h1 h2
        (try simp only [hk, h1, h2])
        obtain ⟨xs, h3, h4⟩ := buildI_wit _ _ hv
        refine h4 _ ?_
        split at h3
        · rename_i hnp
          (try simp only [hnp])
          split at h3
          · exact h3
          · rw [fvL_eq] at h3 ⊢
            exact untag_none n1 n2 h3
        · exact h3.elim
      · exact hv.elim
    · exact hv.elim
  | call c =>
    simp only [pval] at hv
    (try simp only [iop])
    unfold pcall at hv
    unfold calls
    have hun : ∀ {S2 : St} {K' : St → Prop}, S2.tm = S.tm → S2.ce = S.ce → K' S2 → untagO dst S2 K' := by
      intro S2 K' e1 e2 h
      cases dst with
      | none => exact h
      | some d =>
        obtain ⟨n1, n2⟩ := hn d rfl rfl
        exact untag_none (by rw [e1]; exact n1) (by rw [e2]; exact n2) h
    split at hv
    · rename_i f hf
      split at hv
      · rename_i g first captured hx
        (try simp only [hf, hx])
        rw [fvL_eq] at hv ⊢
        obtain ⟨as, r, r', h0, h1, h2, h3⟩ := hv
        obtain ⟨tm, ce, up⟩ := S
        exact ⟨as, r, r', ce, up, h0, h1, h2, hun rfl rfl h3⟩
      · exact hv.elim
    · rename_i b hb
      (try simp only [hb])
      rw [fvL_eq] at hv ⊢
      split at hv
      · rename_i x hx
        (try simp only [hx])
        split at hv
        · rename_i t ht
          (try simp only [ht])
          split at hv
          · rename_i hk; (try simp only [hk]); exact hv
          · rename_i hk; (try simp only [hk]); exact hv
          · rename_i hk; (try simp only [hk]); exact hv
          · exact hv.elim
        · exact hv.elim
      · rename_i x y hx; (try simp only [hx]); exact hv
      · rename_i x y hx; (try simp only [hx]); exact hv
      · rename_i s x hx
        (try simp only [hx])
        split at hv
        · rename_i d t t' hd ht
          simp only at hd; subst hd
          (try simp only [ht])
          obtain ⟨n1, n2⟩ := hn d rfl rfl
          split at hv
          · rename_i e h1 h2
            (try simp only [h1, h2])
            unfold pappend at hv
            unfold appendI
            split at hv
            · exact hv
            · rename_i e2 m g'
              split at hv
              · exact hv.elim
              · rename_i hn'
                (try simp only [hn'])
                split at hv
                · rw [chk_iff] at hv ⊢
                  exact ⟨hv.1, untag_none n1 n2 hv.2⟩
                · exact hv.elim
            · exact hv.elim
          · exact hv.elim
        · exact hv.elim
      · exact hv.elim
    · exact hv.elim
  | makeSlice t len cap =>
    simp only [pval, ival] at hv
  | slice t x lo hi mx =>
    simp only [pval] at hv
    simp only [iop]
    split
    · rename_i n e hk
      simp only [ival] at hv
      unfold sliceI at hv
      rw [hk] at hv
      split at hv
      · rename_i h1 _; cases h1
      · rename_i h1 _; cases h1
      · exact hv.elim
    · exact hv
  | _ => simp only [pval] at hv; (try simp only [iop]); exact hv

end
end Go.Proofs.YtllmejkmogepjaaDoor.Ix
