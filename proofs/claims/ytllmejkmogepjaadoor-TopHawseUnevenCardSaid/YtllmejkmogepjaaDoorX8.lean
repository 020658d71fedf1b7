/-
  Ix8: what the evaluator says of an operation is what the model does there.
-/
import Derived.Test.YtllmejkmogepjaaDoorX7
namespace Go.Proofs.YtllmejkmogepjaaDoor.Ix
set_option linter.unusedVariables false

section
variable {Γ : Env} {S : St} {a : Act} {w : World} {I : Imm} {X : Nat → Prop} {β : Beta} {σ : Nat → Sig} {K : St → Prop}

theorem wp_val {P : Program} {o : Oper} {next : Act → World → Prop} {Q : Exit → Act → World → Prop} {v : Value} {w' : World}
    (h : (execOp a.eval o).run P w = .ok (.value v) w') (hn : next (a.put o.dst v) w') : o.wp P a w next Q := by
  unfold Oper.wp; rw [h]; exact hn
theorem wp_skp {P : Program} {o : Oper} {next : Act → World → Prop} {Q : Exit → Act → World → Prop} {w' : World}
    (h : (execOp a.eval o).run P w = .ok .skip w') (hn : next (a.put o.dst undef) w') : o.wp P a w next Q := by
  unfold Oper.wp; rw [h]; exact hn

theorem eqIV_val {s : Sig} {k : LK} {x y : IV} {vx vy : Value} {b : Bool} (h : eqIV k x y = some b) (hx : V I β s x vx) (hy : V I β s y vy) : eqVal k vx vy = some b := by
  unfold eqIV at h
  split at h
  · rename_i k a k' b
    have := hx.int_inv; have := hy.int_inv; subst vx vy
    split at h
    · rename_i hk; simp at hk; subst hk; simpa [eqVal] using h
    · cases h
  · have := hx.bool_inv; have := hy.bool_inv; subst vx vy; simpa [eqVal] using h
  · have := hx.str_inv; have := hy.str_inv; subst vx vy; simpa [eqVal] using h
  · cases h

theorem eqAll_vals {s : Sig} : ∀ {ks : List LK} {xs ys : List IV} {vs us : List Value} {b : Bool}, eqAll ks xs ys = some b → xs.length = vs.length → ys.length = us.length →
    (∀ (j : Nat) x, xs[j]? = some x → ∃ v, vs[j]? = some v ∧ V I β s x v) → (∀ (j : Nat) x, ys[j]? = some x → ∃ v, us[j]? = some v ∧ V I β s x v) → eqVals ks vs us = some b
  | [], [], [], [], [], b, h, _, _, _, _ => by simpa [eqAll, eqVals] using h
  | [], [], _ :: _, _, _, b, h, _, _, _, _ => by simp [eqAll] at h
  | [], _ :: _, _, _, _, b, h, _, _, _, _ => by simp [eqAll] at h
  | _ :: _, [], _, _, _, b, h, _, _, _, _ => by simp [eqAll] at h
  | _ :: _, _ :: _, [], _, _, b, h, _, _, _, _ => by simp [eqAll] at h
  | k :: ks, x :: xs, y :: ys, v :: vs, u :: us, b, h, hl, hk, hx, hy => by
    obtain ⟨v', e1, hv⟩ := hx 0 x (by simp)
    obtain ⟨u', e2, hu⟩ := hy 0 y (by simp)
    simp at e1 e2; subst e1 e2
    simp only [eqAll] at h
    simp only [eqVals]
    cases h1 : eqIV k x y with
    | none => simp [h1, andO] at h
    | some a =>
      cases h2 : eqAll ks xs ys with
      | none => simp [h1, h2, andO] at h
      | some c =>
        rw [eqIV_val h1 hv hu, eqAll_vals h2 (by simpa using hl) (by simpa using hk) (fun j z hz => by simpa using hx (j + 1) z (by simpa using hz))
          (fun j z hz => by simpa using hy (j + 1) z (by simpa using hz)), ← h, h1, h2]

theorem run_eqBool {P : Program} {t : Nat} (hu : P.underlying t = some .bool) (a b : Bool) (w : World) : (Op.equal t (.bool a) (.bool b)).run P w = .ok (a == b) w := by
  have : ∀ n, (Op.equalIn (n + 1) t (.bool a) (.bool b)).run P w = .ok (a == b) w := by
    intro n
    rw [Op.equalIn]
    simp only [Sem.run_bind, run_underlying hu, Result.andThen_ok]
    rfl
  exact this 9999

theorem bin_sound {P : Program} {t : Nat} {s : Sig} {op : BinOp} {ty : Ty} {x y : IV} {vx vy : Value} {K : IV → Prop} (h : bin op ty x y K) (hx : V I β s x vx) (hy : V I β s y vy)
    (heq : ty.eq ≠ [] → EqOK P t ty.eq) (hbo : ty.k = .other → ∀ b, ty.zero = [.bool b] → P.underlying t = some .bool) (ox oy : Operand) :
    ∃ iv v, K iv ∧ V I β s iv v ∧ (do eqGuard op t ox oy vx vy; binOp op t vx vy : Sem Value).run P w = .ok v w := by
  have guard : ∀ vx vy, (∀ a b, (vx, vy) ≠ (.agg a, .agg b)) → (vx, vy) ≠ (.nilIface, .nilIface) → (eqGuard op t ox oy vx vy).run P w = .ok () w := by
    intro vx vy h1 h2
    have key : ∀ (A B : Sem Unit), (match vx, vy with | .nilIface, .nilIface => A | .agg _, .agg _ => B | _, _ => pure ()).run P w = .ok () w := by
      intro A B
      split
      · exact absurd rfl h2
      · exact absurd rfl (h1 _ _)
      · rfl
    cases op <;> first | rfl | exact key _ _
  unfold bin at h
  split at h
  · rename_i k a k' b
    have := hx.int_inv; have := hy.int_inv; subst vx vy
    have g := guard (.int k a) (.int k' b) (by simp) (by simp)
    have done : ∀ {iv : IV} {v : Value}, K iv → V I β s iv v → (binOp op t (.int k a) (.int k' b)).run P w = .ok v w →
        ∃ iv v, K iv ∧ V I β s iv v ∧ (do eqGuard op t ox oy (.int k a) (.int k' b); binOp op t (.int k a) (.int k' b) : Sem Value).run P w = .ok v w := by
      intro iv v hk hv hr
      exact ⟨iv, v, hk, hv, by simp [g, hr]⟩
    split at h
    · obtain ⟨h1, h2⟩ := chk_spec h
      simp at h1
      exact done h2 (.data (.int _ _)) (by simp [binOp, Op.shift, show ¬ b < 0 by omega])
    · obtain ⟨h1, h2⟩ := chk_spec h
      simp at h1
      exact done h2 (.data (.int _ _)) (by simp [binOp, Op.shift, show ¬ b < 0 by omega])
    · split at h
      · exact h.elim
      · rename_i hk
        simp at hk; subst hk
        split at h
        · exact done h (.data (.int _ _)) (by simp [binOp, Op.intArith])
        · exact done h (.data (.int _ _)) (by simp [binOp, Op.intArith])
        · exact done h (.data (.int _ _)) (by simp [binOp, Op.intArith])
        · obtain ⟨h1, h2⟩ := chk_spec h
          simp at h1
          exact done h2 (.data (.int _ _)) (by simp [binOp, Op.intDiv, h1])
        · obtain ⟨h1, h2⟩ := chk_spec h
          simp at h1
          exact done h2 (.data (.int _ _)) (by simp [binOp, Op.intDiv, h1])
        · exact done h (.data (.bool _)) (by simp [binOp, Op.intCmp])
        · exact done h (.data (.bool _)) (by simp [binOp, Op.intCmp])
        · exact done h (.data (.bool _)) (by simp [binOp, Op.intCmp])
        · exact done h (.data (.bool _)) (by simp [binOp, Op.intCmp])
        · exact done h (.data (.bool _)) (by simp [binOp, Op.intCmp])
        · exact done h (.data (.bool _)) (by simp [binOp, Op.intCmp])
        · exact h.elim
  · rename_i a b
    have := hx.str_inv; have := hy.str_inv; subst vx vy
    have g := guard (.string a) (.string b) (by simp) (by simp)
    split at h
    · obtain ⟨h1, h2⟩ := chk_spec h
      simp at h1
      refine ⟨_, .string (a ++ b), h2, .data (.str _), ?_⟩
      have : ¬ ((a.size + b.size : Nat) : Int) > IntKind.i64.max := by
        have : IntKind.i64.max = 9223372036854775807 := by decide
        omega
      simp only [Sem.run_bind, g, Result.andThen_ok, binOp, Op.stringOp]
      rw [if_neg this]; rfl
    · exact ⟨_, _, h, .data (.bool _), by simp [g, binOp, Op.stringOp]⟩
    · exact ⟨_, _, h, .data (.bool _), by simp [g, binOp, Op.stringOp]⟩
    · exact h.elim
  · rename_i a b
    have := hx.bool_inv; have := hy.bool_inv; subst vx vy
    have g := guard (.bool a) (.bool b) (by simp) (by simp)
    split at h
    · rename_i h1 h2
      exact ⟨_, _, h, .data (.bool _), by simp only [Sem.run_bind, g, Result.andThen_ok, binOp, run_eqBool (hbo h1 _ h2)]; rfl⟩
    · rename_i h1 h2
      exact ⟨_, _, h, .data (.bool _), by simp only [Sem.run_bind, g, Result.andThen_ok, binOp, run_eqBool (hbo h1 _ h2)]; rfl⟩
    · exact h.elim
  · rename_i xs ys
    obtain ⟨vs, rfl, hl, _, hv⟩ := hx.agg_inv
    obtain ⟨us, rfl, hk, _, hu⟩ := hy.agg_inv
    split at h
    · exact h.elim
    · rename_i k ks hks
      have e1 := heq (by rw [hks]; simp)
      rw [hks] at e1
      have key : ∀ b, eqAll (k :: ks) xs ys = some b → eqVals (k :: ks) vs.toList us.toList = some b := fun b hb =>
        eqAll_vals (vs := vs.toList) (us := us.toList) hb (by simpa using hl) (by simpa using hk)
          (fun j x hx => by have hj : j < vs.size := by rw [← hl]; exact (List.getElem?_eq_some_iff.1 hx).1
                            exact ⟨vs[j], by simp [hj], by have := hv j x hx; simpa [hj] using this⟩)
          (fun j x hx => by have hj : j < us.size := by rw [← hk]; exact (List.getElem?_eq_some_iff.1 hx).1
                            exact ⟨us[j], by simp [hj], by have := hu j x hx; simpa [hj] using this⟩)
      split at h
      · rename_i b hb
        obtain ⟨g1, g2⟩ := e1 .eql ox oy vs us b w (key b hb)
        exact ⟨_, .bool b, h, .data (.bool _), by simp [g1, binOp, g2]⟩
      · rename_i b hb
        obtain ⟨g1, g2⟩ := e1 .neq ox oy vs us b w (key b hb)
        exact ⟨_, .bool !b, h, .data (.bool _), by simp [g1, binOp, g2]⟩
      · exact h.elim
  · exact h.elim

end
end Go.Proofs.YtllmejkmogepjaaDoor.Ix
