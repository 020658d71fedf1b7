/-
  Ix4: small laws of the evaluator's own lists, and of values.
-/
import Derived.Test.YtllmejkmogepjaaDoorX3
namespace Go.Proofs.YtllmejkmogepjaaDoor.Ix

mutual
theorem fv_eq : ∀ (v : IV) (K : IV → Prop), fv v K = K v
  | .int _ _, _ | .bool _, _ | .str _, _ | .lit _, _ | .nilS, _ | .lst _ _ _ _, _ | .ptr _ _ _, _ | .vptr _ _ _ _ _, _ | .raw _ _ _, _ | .dead, _ => by simp [fv]
  | .agg xs, K => by simp only [fv]; rw [fvL_eq xs]
  | .tup xs, K => by simp only [fv]; rw [fvL_eq xs]
  | .fn f a c, K => by simp only [fv]; rw [fvL_eq a, fvL_eq c]
theorem fvL_eq : ∀ (v : List IV) (K : List IV → Prop), fvL v K = K v
  | [], _ => by simp [fvL]
  | x :: r, K => by simp only [fvL]; rw [fv_eq x, fvL_eq r]
end

theorem ev_eq (Γ : Env) (S : St) (x : Operand) (K : IV → Prop) : ev Γ S x K = K (evo Γ S x) := fv_eq _ _

theorem fps_eq : ∀ (l : Tms) (K : Tms → Prop), fps l K = K l
  | [], _ => rfl
  | (i, v) :: r, K => by simp only [fps]; rw [fv_eq, fps_eq r]

theorem fcs_eq : ∀ (l : Ces) (K : Ces → Prop), fcs l K = K l
  | [], _ => rfl
  | (i, v) :: r, K => by simp only [fcs]; rw [fvL_eq, fcs_eq r]

theorem nthI_eq : ∀ (l : List IV) (i : Nat), nthI l i = l[i]?
  | [], _ => by simp [nthI]
  | _ :: _, 0 => by simp [nthI]
  | _ :: r, n + 1 => by simp [nthI, nthI_eq r n]

theorem dropN_eq : ∀ (n : Nat) (l : List IV), dropN n l = l.drop n
  | 0, _ => rfl
  | _ + 1, [] => rfl
  | n + 1, _ :: r => by simp [dropN, dropN_eq n r]

theorem takeN_spec : ∀ (n : Nat) (l t : List IV), takeN n l = some t → t = l.take n ∧ n ≤ l.length
  | 0, l, t, h => by simp [takeN] at h; simp [h]
  | _ + 1, [], t, h => by simp [takeN] at h
  | n + 1, x :: r, t, h => by
    simp only [takeN] at h
    split at h
    · rename_i u hu
      obtain ⟨rfl, hn⟩ := takeN_spec n r u hu
      simp at h
      simp [← h, hn]
    · cases h

theorem lay_spec : ∀ (l : List IV) (off : Nat) (vs r : List IV), lay l off vs = some r →
    off + vs.length ≤ l.length ∧ r.length = l.length ∧ ∀ j, r[j]? = if off ≤ j ∧ j < off + vs.length then vs[j - off]? else l[j]?
  | l, 0, [], r, h => by simp [lay] at h; subst h; simp
  | [], 0, _ :: _, r, h => by simp [lay] at h
  | x :: l, 0, v :: vs, r, h => by
    simp only [lay] at h
    split at h
    · rename_i t ht
      obtain ⟨h1, h2, h3⟩ := lay_spec l 0 vs t ht
      simp at h; subst h
      refine ⟨by simp at *; omega, by simp [h2], fun j => ?_⟩
      cases j with
      | zero => simp
      | succ j =>
        have := h3 j
        simp at this
        simp [this]
    · cases h
  | [], _ + 1, vs, r, h => by simp [lay] at h
  | x :: l, off + 1, vs, r, h => by
    simp only [lay] at h
    split at h
    · rename_i t ht
      obtain ⟨h1, h2, h3⟩ := lay_spec l off vs t ht
      simp at h; subst h
      refine ⟨by simp at *; omega, by simp [h2], fun j => ?_⟩
      cases j with
      | zero => simp
      | succ j =>
        have := h3 j
        simp only [List.getElem?_cons_succ, this]
        by_cases hj : off ≤ j ∧ j < off + vs.length
        · rw [if_pos hj, if_pos (by omega)]
          congr 1; omega
        · rw [if_neg hj, if_neg (by omega)]
    · cases h

theorem fieldAt_eq : ∀ (l : List (Nat × Nat × Bool)) (i : Nat), fieldAt l i = l[i]?
  | [], _ => by simp [fieldAt]
  | _ :: _, 0 => by simp [fieldAt]
  | _ :: r, n + 1 => by simp [fieldAt, fieldAt_eq r n]

theorem chk_spec {b : Bool} {p : Prop} (h : chk b p) : b = true ∧ p := by
  cases b
  · exact h.elim
  · exact ⟨rfl, h⟩

theorem look_cons (d : Nat) (v : IV) (r : Tms) (i : Nat) : look ((d, v) :: r) i = if d = i then v else look r i := by
  simp only [look]
  by_cases h : d = i
  · subst h; simp
  · have : Nat.beq d i = false := by rw [Bool.eq_false_iff]; intro e; exact h (Nat.eq_of_beq_eq_true e)
    simp [this, h]

theorem beq_iff (a b : Nat) : Nat.beq a b = true ↔ a = b := ⟨Nat.eq_of_beq_eq_true, fun h => by subst h; simp⟩
theorem beq_false {a b : Nat} (h : Nat.beq a b = false) : a ≠ b := fun e => by subst e; simp at h

theorem lookC_cons (d : Nat) (c : List IV) (r : Ces) (i : Nat) : lookC ((d, c) :: r) i = if d = i then some c else lookC r i := by
  simp only [lookC]
  by_cases h : d = i
  · subst h; simp
  · have : Nat.beq d i = false := by rw [Bool.eq_false_iff]; intro e; exact h (Nat.eq_of_beq_eq_true e)
    simp [this, h]

theorem lookC_putC : ∀ (l : Ces) (d : Nat) (c : List IV) (i : Nat), lookC (putC l d c) i = if d = i ∧ (lookC l d).isSome then some c else lookC l i
  | [], d, c, i => by simp [putC, lookC]
  | (k, x) :: r, d, c, i => by
    by_cases hk : k = d
    · subst hk
      have : Nat.beq k k = true := by simp
      simp only [putC, this, lookC_cons]
      by_cases hi : k = i <;> simp [hi]
    · have : Nat.beq k d = false := by rw [Bool.eq_false_iff]; intro e; exact hk (Nat.eq_of_beq_eq_true e)
      simp only [putC, this, lookC_cons, lookC_putC r d c i, if_neg hk]
      by_cases hi : k = i
      · subst hi; simp [Ne.symm hk]
      · simp [hi]

theorem hasKey_spec : ∀ (l : Ces) (d : Nat), hasKey l d = false → lookC l d = none
  | [], _, _ => rfl
  | (k, x) :: r, d, h => by
    simp [hasKey] at h
    rw [lookC_cons, if_neg, hasKey_spec r d h.2]
    intro e; subst e; simp at h

theorem upC_putUp : ∀ (u : List Ces) (l d : Nat) (c : List IV) (k : Nat), upC (putUp u l d c) k = if k = l then putC (upC u k) d c else upC u k
  | [], l, d, c, k => by simp [putUp, upC, putC]
  | x :: r, 0, d, c, k => by cases k <;> simp [putUp, upC]
  | x :: r, l + 1, d, c, k => by
    cases k with
    | zero => simp [putUp, upC]
    | succ k => simp [putUp, upC, upC_putUp r l d c k]

end Go.Proofs.YtllmejkmogepjaaDoor.Ix
