/-
  Ix5: values handed from level to level, and without their tags.
-/
import Derived.Test.YtllmejkmogepjaaDoorX4
namespace Go.Proofs.YtllmejkmogepjaaDoor.Ix

theorem noOwnL_eq : ∀ l, noOwnL l = l.map noOwn
  | [] => rfl
  | x :: r => by simp [noOwnL, noOwnL_eq r]
theorem shiftL_eq : ∀ l, shiftL l = l.map shift
  | [] => rfl
  | x :: r => by simp [shiftL, shiftL_eq r]
theorem liftL_eq (k : Nat) : ∀ l, liftL k l = l.map (lift k)
  | [] => rfl
  | x :: r => by simp [liftL, liftL_eq k r]
theorem dropTagL_eq (k : Nat) : ∀ l, dropTagL k l = l.map (dropTag k)
  | [] => rfl
  | x :: r => by simp [dropTagL, dropTagL_eq k r]
theorem hasTagL_spec (k : Nat) : ∀ l, hasTagL k l = false → ∀ (j : Nat) x, l[j]? = some x → hasTag k x = false
  | [], _, j, x, h => by simp at h
  | y :: r, h, j, x, hx => by
    simp [hasTagL] at h
    cases j with
    | zero => simp at hx; subst hx; exact h.1
    | succ j => exact hasTagL_spec k r h.2 j x (by simpa using hx)
theorem unshiftL_spec : ∀ l l', unshiftL l = some l' → l'.length = l.length ∧ ∀ (j : Nat) y, l'[j]? = some y → ∃ x, l[j]? = some x ∧ unshift x = some y
  | [], l', h => by simp [unshiftL] at h; subst h; simp
  | x :: r, l', h => by
    simp only [unshiftL] at h
    split at h
    · rename_i y s h1 h2
      obtain ⟨e1, e2⟩ := unshiftL_spec r s h2
      simp at h; subst h
      refine ⟨by simp [e1], fun j z hz => ?_⟩
      cases j with
      | zero => simp at hz; subst hz; exact ⟨x, by simp, h1⟩
      | succ j => simpa using e2 j z (by simpa using hz)
    · cases h
theorem lowerL_spec (k : Nat) : ∀ l l', lowerL k l = some l' → l'.length = l.length ∧ ∀ (j : Nat) y, l'[j]? = some y → ∃ x, l[j]? = some x ∧ lower k x = some y
  | [], l', h => by simp [lowerL] at h; subst h; simp
  | x :: r, l', h => by
    simp only [lowerL] at h
    split at h
    · rename_i y s h1 h2
      obtain ⟨e1, e2⟩ := lowerL_spec k r s h2
      simp at h; subst h
      refine ⟨by simp [e1], fun j z hz => ?_⟩
      cases j with
      | zero => simp at hz; subst hz; exact ⟨x, by simp, h1⟩
      | succ j => simpa using e2 j z (by simpa using hz)
    · cases h

theorem map_get {f : IV → IV} {xs : List IV} {j : Nat} {x : IV} (h : (xs.map f)[j]? = some x) : ∃ y, xs[j]? = some y ∧ f y = x := by
  simpa using h

theorem D.noOwn {I : Imm} {x : IV} {v : Value} (h : D I x v) : D I (noOwn x) v := by
  induction h with
  | int k n => exact .int k n
  | bool b => exact .bool b
  | str s => exact .str s
  | lit v h => exact .lit v h
  | nilS => exact .nilS
  | lstN e f => exact .lstN e f
  | lst e n f b off c g hc hl hi h1 h ih => exact .lst e n f b off c g hc hl hi h1 h
  | vptr e n f i j b off g hi0 hl hi h1 h ih => exact .vptr e n f i j b off g hi0 hl hi h1 h
  | agg xs vs hl h1 _ ih =>
    simp only [Ix.noOwn, noOwnL_eq]
    exact .agg _ vs (by simpa using hl) h1 fun j x hx => by obtain ⟨y, hy, rfl⟩ := map_get hx; exact ih j y hy
  | tup xs vs hl _ ih =>
    simp only [Ix.noOwn, noOwnL_eq]
    exact .tup _ vs (by simpa using hl) fun j x hx => by obtain ⟨y, hy, rfl⟩ := map_get hx; exact ih j y hy
  | fn f xs ys vs us hl hk _ _ ih ih' =>
    simp only [Ix.noOwn, noOwnL_eq]
    exact .fn f _ _ vs us (by simpa using hl) (by simpa using hk) (fun j x hx => by obtain ⟨y, hy, rfl⟩ := map_get hx; exact ih j y hy)
      (fun j x hx => by obtain ⟨y, hy, rfl⟩ := map_get hx; exact ih' j y hy)
  | dead v => exact .dead v

theorem V.noOwn {I : Imm} {β : Beta} {σ σ' : Sig} {x : IV} {v : Value} (h : V I β σ x v) : V I β σ' (noOwn x) v := by
  induction h with
  | data h => exact .data h.noOwn
  | ptr l d off b h => exact .ptr l d off b h
  | ownN t e f => exact .data (.lstN e f)
  | own t e n f b el c g ht hc hl hi h1 h => exact .data (.lst e n f b 0 c g hc hl (fun i j a b => by simpa using hi i j a b) h1 h)
  | raw t e n b el ht => exact .data (.dead _)
  | agg xs vs hl h1 _ ih =>
    simp only [Ix.noOwn, noOwnL_eq]
    exact .agg _ vs (by simpa using hl) h1 fun j x hx => by obtain ⟨y, hy, rfl⟩ := map_get hx; exact ih j y hy
  | tup xs vs hl _ ih =>
    simp only [Ix.noOwn, noOwnL_eq]
    exact .tup _ vs (by simpa using hl) fun j x hx => by obtain ⟨y, hy, rfl⟩ := map_get hx; exact ih j y hy
  | fn f xs ys vs us hl hk _ _ ih ih' =>
    simp only [Ix.noOwn, noOwnL_eq]
    exact .fn f _ _ vs us (by simpa using hl) (by simpa using hk) (fun j x hx => by obtain ⟨y, hy, rfl⟩ := map_get hx; exact ih j y hy)
      (fun j x hx => by obtain ⟨y, hy, rfl⟩ := map_get hx; exact ih' j y hy)

theorem D.shift {I : Imm} {x : IV} {v : Value} (h : D I x v) : D I (shift x) v := by
  induction h with
  | int k n => exact .int k n
  | bool b => exact .bool b
  | str s => exact .str s
  | lit v h => exact .lit v h
  | nilS => exact .nilS
  | lstN e f => exact .lstN e f
  | lst e n f b off c g hc hl hi h1 h ih => exact .lst e n f b off c g hc hl hi h1 h
  | vptr e n f i j b off g hi0 hl hi h1 h ih => exact .vptr e n f i j b off g hi0 hl hi h1 h
  | agg xs vs hl h1 _ ih =>
    simp only [Ix.shift, shiftL_eq]
    exact .agg _ vs (by simpa using hl) h1 fun j x hx => by obtain ⟨y, hy, rfl⟩ := map_get hx; exact ih j y hy
  | tup xs vs hl _ ih =>
    simp only [Ix.shift, shiftL_eq]
    exact .tup _ vs (by simpa using hl) fun j x hx => by obtain ⟨y, hy, rfl⟩ := map_get hx; exact ih j y hy
  | fn f xs ys vs us hl hk _ _ ih ih' =>
    simp only [Ix.shift, shiftL_eq]
    exact .fn f _ _ vs us (by simpa using hl) (by simpa using hk) (fun j x hx => by obtain ⟨y, hy, rfl⟩ := map_get hx; exact ih j y hy)
      (fun j x hx => by obtain ⟨y, hy, rfl⟩ := map_get hx; exact ih' j y hy)
  | dead v => exact .dead v

theorem V.shift {I : Imm} {β : Beta} {σ σ' : Sig} {x : IV} {v : Value} (h : V I β σ x v) : V I (under β) σ' (shift x) v := by
  induction h with
  | data h => exact .data h.shift
  | ptr l d off b h => exact .ptr (l + 1) d off b h
  | ownN t e f => exact .data (.lstN e f)
  | own t e n f b el c g ht hc hl hi h1 h => exact .data (.lst e n f b 0 c g hc hl (fun i j a b => by simpa using hi i j a b) h1 h)
  | raw t e n b el ht => exact .data (.dead _)
  | agg xs vs hl h1 _ ih =>
    simp only [Ix.shift, shiftL_eq]
    exact .agg _ vs (by simpa using hl) h1 fun j x hx => by obtain ⟨y, hy, rfl⟩ := map_get hx; exact ih j y hy
  | tup xs vs hl _ ih =>
    simp only [Ix.shift, shiftL_eq]
    exact .tup _ vs (by simpa using hl) fun j x hx => by obtain ⟨y, hy, rfl⟩ := map_get hx; exact ih j y hy
  | fn f xs ys vs us hl hk _ _ ih ih' =>
    simp only [Ix.shift, shiftL_eq]
    exact .fn f _ _ vs us (by simpa using hl) (by simpa using hk) (fun j x hx => by obtain ⟨y, hy, rfl⟩ := map_get hx; exact ih j y hy)
      (fun j x hx => by obtain ⟨y, hy, rfl⟩ := map_get hx; exact ih' j y hy)

theorem D.unshift {I : Imm} {x : IV} {v : Value} (h : D I x v) : ∀ y, unshift x = some y → D I y v := by
  induction h with
  | int k n => intro y e; simp [Ix.unshift] at e; subst e; exact .int k n
  | bool b => intro y e; simp [Ix.unshift] at e; subst e; exact .bool b
  | str s => intro y e; simp [Ix.unshift] at e; subst e; exact .str s
  | lit v h => intro y e; simp [Ix.unshift] at e; subst e; exact .lit v h
  | nilS => intro y e; simp [Ix.unshift] at e; subst e; exact .nilS
  | lstN e f => intro y e; simp [Ix.unshift] at e; subst e; exact .lstN _ f
  | lst e n f b off c g hc hl hi h1 h ih => intro y e; simp [Ix.unshift] at e; subst e; exact .lst _ n f b off c g hc hl hi h1 h
  | vptr e n f i j b off g hi0 hl hi h1 h ih => intro y e; simp [Ix.unshift] at e; subst e; exact .vptr _ n f i j b off g hi0 hl hi h1 h
  | agg xs vs hl h1 _ ih =>
    intro y e
    simp only [Ix.unshift] at e
    split at e
    · rename_i ys hy
      obtain ⟨e1, e2⟩ := unshiftL_spec _ _ hy
      simp at e; subst e
      exact .agg _ vs (by rw [e1, hl]) h1 fun j x hx => by obtain ⟨z, hz, hu⟩ := e2 j x hx; exact ih j z hz x hu
    · cases e
  | tup xs vs hl _ ih =>
    intro y e
    simp only [Ix.unshift] at e
    split at e
    · rename_i ys hy
      obtain ⟨e1, e2⟩ := unshiftL_spec _ _ hy
      simp at e; subst e
      exact .tup _ vs (by rw [e1, hl]) fun j x hx => by obtain ⟨z, hz, hu⟩ := e2 j x hx; exact ih j z hz x hu
    · cases e
  | fn f xs ys vs us hl hk _ _ ih ih' =>
    intro y e
    simp only [Ix.unshift] at e
    split at e
    · rename_i as cs ha hc
      obtain ⟨e1, e2⟩ := unshiftL_spec _ _ ha
      obtain ⟨e3, e4⟩ := unshiftL_spec _ _ hc
      simp at e; subst e
      exact .fn f _ _ vs us (by rw [e1, hl]) (by rw [e3, hk]) (fun j x hx => by obtain ⟨z, hz, hu⟩ := e2 j x hx; exact ih j z hz x hu)
        (fun j x hx => by obtain ⟨z, hz, hu⟩ := e4 j x hx; exact ih' j z hz x hu)
    · cases e
  | dead v => intro y e; simp [Ix.unshift] at e; subst e; exact .dead v

theorem V.unshift {I : Imm} {β : Beta} {σ σ' : Sig} {x : IV} {v : Value} (h : V I (under β) σ x v) : ∀ y, unshift x = some y → V I β σ' y v := by
  generalize hb : under β = β' at h
  induction h with
  | data h => exact fun y e => .data (h.unshift y e)
  | ptr l d off b h =>
    subst hb
    intro y e
    cases l with
    | zero => simp [Ix.unshift] at e
    | succ l => simp [Ix.unshift] at e; subst e; exact .ptr l d off b h
  | ownN t e f => intro y e; simp [Ix.unshift] at e; subst e; exact .data (.lstN _ f)
  | own t e n f b el c g ht hc hl hi h1 h => intro y e; simp [Ix.unshift] at e; subst e; exact .data (.lst _ n f b 0 c g hc hl (fun i j a b => by simpa using hi i j a b) h1 h)
  | raw t e n b el ht => intro y e; simp [Ix.unshift] at e; subst e; exact .data (.dead _)
  | agg xs vs hl h1 _ ih =>
    intro y e
    simp only [Ix.unshift] at e
    split at e
    · rename_i ys hy
      obtain ⟨e1, e2⟩ := unshiftL_spec _ _ hy
      simp at e; subst e
      exact .agg _ vs (by rw [e1, hl]) h1 fun j x hx => by obtain ⟨z, hz, hu⟩ := e2 j x hx; exact ih j z hz x hu
    · cases e
  | tup xs vs hl _ ih =>
    intro y e
    simp only [Ix.unshift] at e
    split at e
    · rename_i ys hy
      obtain ⟨e1, e2⟩ := unshiftL_spec _ _ hy
      simp at e; subst e
      exact .tup _ vs (by rw [e1, hl]) fun j x hx => by obtain ⟨z, hz, hu⟩ := e2 j x hx; exact ih j z hz x hu
    · cases e
  | fn f xs ys vs us hl hk _ _ ih ih' =>
    intro y e
    simp only [Ix.unshift] at e
    split at e
    · rename_i as cs ha hc
      obtain ⟨e1, e2⟩ := unshiftL_spec _ _ ha
      obtain ⟨e3, e4⟩ := unshiftL_spec _ _ hc
      simp at e; subst e
      exact .fn f _ _ vs us (by rw [e1, hl]) (by rw [e3, hk]) (fun j x hx => by obtain ⟨z, hz, hu⟩ := e2 j x hx; exact ih j z hz x hu)
        (fun j x hx => by obtain ⟨z, hz, hu⟩ := e4 j x hx; exact ih' j z hz x hu)
    · cases e

theorem D.lift {I : Imm} (k : Nat) {x : IV} {v : Value} (h : D I x v) : D I (lift k x) v := by
  induction h with
  | int k n => exact .int k n
  | bool b => exact .bool b
  | str s => exact .str s
  | lit v h => exact .lit v h
  | nilS => exact .nilS
  | lstN e f => exact .lstN e f
  | lst e n f b off c g hc hl hi h1 h ih => exact .lst e n f b off c g hc hl hi h1 h
  | vptr e n f i j b off g hi0 hl hi h1 h ih => exact .vptr e n f i j b off g hi0 hl hi h1 h
  | agg xs vs hl h1 _ ih =>
    simp only [Ix.lift, liftL_eq]
    exact .agg _ vs (by simpa using hl) h1 fun j x hx => by obtain ⟨y, hy, rfl⟩ := map_get hx; exact ih j y hy
  | tup xs vs hl _ ih =>
    simp only [Ix.lift, liftL_eq]
    exact .tup _ vs (by simpa using hl) fun j x hx => by obtain ⟨y, hy, rfl⟩ := map_get hx; exact ih j y hy
  | fn f xs ys vs us hl hk _ _ ih ih' =>
    simp only [Ix.lift, liftL_eq]
    exact .fn f _ _ vs us (by simpa using hl) (by simpa using hk) (fun j x hx => by obtain ⟨y, hy, rfl⟩ := map_get hx; exact ih j y hy)
      (fun j x hx => by obtain ⟨y, hy, rfl⟩ := map_get hx; exact ih' j y hy)
  | dead v => exact .dead v

theorem V.lift {I : Imm} {β : Beta} {σ σ' : Sig} (k : Nat) {x : IV} {v : Value} (h : V I (fun l => β (k + l)) σ x v) : V I β σ' (lift k (Ix.noOwn x)) v := by
  generalize hb : (fun l => β (k + l)) = β' at h
  induction h with
  | data h => exact .data (h.noOwn.lift k)
  | ptr l d off b h => subst hb; exact .ptr _ d off b h
  | ownN t e f => exact .data (.lstN e f)
  | own t e n f b el c g ht hc hl hi h1 h => exact .data (.lst e n f b 0 c g hc hl (fun i j a b => by simpa using hi i j a b) h1 h)
  | raw t e n b el ht => exact .data (.dead _)
  | agg xs vs hl h1 _ ih =>
    simp only [Ix.noOwn, noOwnL_eq, Ix.lift, liftL_eq, List.map_map]
    exact .agg _ vs (by simpa using hl) h1 fun j x hx => by obtain ⟨y, hy, rfl⟩ := map_get hx; exact ih j y hy
  | tup xs vs hl _ ih =>
    simp only [Ix.noOwn, noOwnL_eq, Ix.lift, liftL_eq, List.map_map]
    exact .tup _ vs (by simpa using hl) fun j x hx => by obtain ⟨y, hy, rfl⟩ := map_get hx; exact ih j y hy
  | fn f xs ys vs us hl hk _ _ ih ih' =>
    simp only [Ix.noOwn, noOwnL_eq, Ix.lift, liftL_eq, List.map_map]
    exact .fn f _ _ vs us (by simpa using hl) (by simpa using hk) (fun j x hx => by obtain ⟨y, hy, rfl⟩ := map_get hx; exact ih j y hy)
      (fun j x hx => by obtain ⟨y, hy, rfl⟩ := map_get hx; exact ih' j y hy)

theorem D.lower {I : Imm} (k : Nat) {x : IV} {v : Value} (h : D I x v) : ∀ y, lower k x = some y → D I y v := by
  induction h with
  | int k n => intro y e; simp [Ix.lower] at e; subst e; exact .int k n
  | bool b => intro y e; simp [Ix.lower] at e; subst e; exact .bool b
  | str s => intro y e; simp [Ix.lower] at e; subst e; exact .str s
  | lit v h => intro y e; simp [Ix.lower] at e; subst e; exact .lit v h
  | nilS => intro y e; simp [Ix.lower] at e; subst e; exact .nilS
  | lstN e f => intro y e; simp [Ix.lower] at e; subst e; exact .lstN _ f
  | lst e n f b off c g hc hl hi h1 h ih => intro y e; simp [Ix.lower] at e; subst e; exact .lst _ n f b off c g hc hl hi h1 h
  | vptr e n f i j b off g hi0 hl hi h1 h ih => intro y e; simp [Ix.lower] at e; subst e; exact .vptr _ n f i j b off g hi0 hl hi h1 h
  | agg xs vs hl h1 _ ih =>
    intro y e
    simp only [Ix.lower] at e
    split at e
    · rename_i ys hy
      obtain ⟨e1, e2⟩ := lowerL_spec _ _ _ hy
      simp at e; subst e
      exact .agg _ vs (by rw [e1, hl]) h1 fun j x hx => by obtain ⟨z, hz, hu⟩ := e2 j x hx; exact ih j z hz x hu
    · cases e
  | tup xs vs hl _ ih =>
    intro y e
    simp only [Ix.lower] at e
    split at e
    · rename_i ys hy
      obtain ⟨e1, e2⟩ := lowerL_spec _ _ _ hy
      simp at e; subst e
      exact .tup _ vs (by rw [e1, hl]) fun j x hx => by obtain ⟨z, hz, hu⟩ := e2 j x hx; exact ih j z hz x hu
    · cases e
  | fn f xs ys vs us hl hk _ _ ih ih' =>
    intro y e
    simp only [Ix.lower] at e
    split at e
    · rename_i as cs ha hc
      obtain ⟨e1, e2⟩ := lowerL_spec _ _ _ ha
      obtain ⟨e3, e4⟩ := lowerL_spec _ _ _ hc
      simp at e; subst e
      exact .fn f _ _ vs us (by rw [e1, hl]) (by rw [e3, hk]) (fun j x hx => by obtain ⟨z, hz, hu⟩ := e2 j x hx; exact ih j z hz x hu)
        (fun j x hx => by obtain ⟨z, hz, hu⟩ := e4 j x hx; exact ih' j z hz x hu)
    · cases e
  | dead v => intro y e; simp [Ix.lower] at e; subst e; exact .dead v

theorem V.lower {I : Imm} {β : Beta} {σ σ' : Sig} (k : Nat) {x : IV} {v : Value} (h : V I β σ x v) : ∀ y, lower k (Ix.noOwn x) = some y → V I (fun l => β (k + l)) σ' y v := by
  induction h with
  | data h => exact fun y e => .data (h.noOwn.lower k y e)
  | ptr l d off b h =>
    intro y e
    simp only [Ix.noOwn, Ix.lower] at e
    split at e
    · rename_i hle
      have hle := Nat.le_of_ble_eq_true hle
      simp at e; subst e
      exact .ptr _ d off b (by show β (k + (l - k)) d = some b; rw [Nat.add_sub_cancel' hle]; exact h)
    · cases e
  | ownN t e f => intro y e; simp [Ix.noOwn, Ix.lower] at e; subst e; exact .data (.lstN _ f)
  | own t e n f b el c g ht hc hl hi h1 h => intro y e; simp [Ix.noOwn, Ix.lower] at e; subst e; exact .data (.lst _ n f b 0 c g hc hl (fun i j a b => by simpa using hi i j a b) h1 h)
  | raw t e n b el ht => intro y e; simp [Ix.noOwn, Ix.lower] at e; subst e; exact .data (.dead _)
  | agg xs vs hl h1 _ ih =>
    intro y e
    simp only [Ix.noOwn, noOwnL_eq, Ix.lower] at e
    split at e
    · rename_i ys hy
      obtain ⟨e1, e2⟩ := lowerL_spec _ _ _ hy
      simp at e; subst e
      exact .agg _ vs (by rw [e1, List.length_map, hl]) h1 fun j x hx => by obtain ⟨z, hz, hu⟩ := e2 j x hx; obtain ⟨z', hz', rfl⟩ := map_get hz; exact ih j z' hz' x hu
    · cases e
  | tup xs vs hl _ ih =>
    intro y e
    simp only [Ix.noOwn, noOwnL_eq, Ix.lower] at e
    split at e
    · rename_i ys hy
      obtain ⟨e1, e2⟩ := lowerL_spec _ _ _ hy
      simp at e; subst e
      exact .tup _ vs (by rw [e1, List.length_map, hl]) fun j x hx => by obtain ⟨z, hz, hu⟩ := e2 j x hx; obtain ⟨z', hz', rfl⟩ := map_get hz; exact ih j z' hz' x hu
    · cases e
  | fn f xs ys vs us hl hk _ _ ih ih' =>
    intro y e
    simp only [Ix.noOwn, noOwnL_eq, Ix.lower] at e
    split at e
    · rename_i as cs ha hc
      obtain ⟨e1, e2⟩ := lowerL_spec _ _ _ ha
      obtain ⟨e3, e4⟩ := lowerL_spec _ _ _ hc
      simp at e; subst e
      exact .fn f _ _ vs us (by rw [e1, List.length_map, hl]) (by rw [e3, List.length_map, hk]) (fun j x hx => by obtain ⟨z, hz, hu⟩ := e2 j x hx; obtain ⟨z', hz', rfl⟩ := map_get hz; exact ih j z' hz' x hu)
        (fun j x hx => by obtain ⟨z, hz, hu⟩ := e4 j x hx; obtain ⟨z', hz', rfl⟩ := map_get hz; exact ih' j z' hz' x hu)
    · cases e

theorem D.dropTag {I : Imm} (t : Nat) {x : IV} {v : Value} (h : D I x v) : D I (dropTag t x) v := by
  induction h with
  | int k n => exact .int k n
  | bool b => exact .bool b
  | str s => exact .str s
  | lit v h => exact .lit v h
  | nilS => exact .nilS
  | lstN e f => exact .lstN e f
  | lst e n f b off c g hc hl hi h1 h ih => exact .lst e n f b off c g hc hl hi h1 h
  | vptr e n f i j b off g hi0 hl hi h1 h ih => exact .vptr e n f i j b off g hi0 hl hi h1 h
  | agg xs vs hl h1 _ ih =>
    simp only [Ix.dropTag, dropTagL_eq]
    exact .agg _ vs (by simpa using hl) h1 fun j x hx => by obtain ⟨y, hy, rfl⟩ := map_get hx; exact ih j y hy
  | tup xs vs hl _ ih =>
    simp only [Ix.dropTag, dropTagL_eq]
    exact .tup _ vs (by simpa using hl) fun j x hx => by obtain ⟨y, hy, rfl⟩ := map_get hx; exact ih j y hy
  | fn f xs ys vs us hl hk _ _ ih ih' =>
    simp only [Ix.dropTag, dropTagL_eq]
    exact .fn f _ _ vs us (by simpa using hl) (by simpa using hk) (fun j x hx => by obtain ⟨y, hy, rfl⟩ := map_get hx; exact ih j y hy)
      (fun j x hx => by obtain ⟨y, hy, rfl⟩ := map_get hx; exact ih' j y hy)
  | dead v => exact .dead v

theorem V.dropTag {I : Imm} {β : Beta} {σ σ' : Sig} (t : Nat) (hs : ∀ u g, u ≠ t → σ u = some g → σ' u = some g) {x : IV} {v : Value} (h : V I β σ x v) : V I β σ' (dropTag t x) v := by
  induction h with
  | data h => exact .data (h.dropTag t)
  | ptr l d off b h => exact .ptr l d off b h
  | ownN u e f =>
    simp only [Ix.dropTag]
    split
    · exact .data (.lstN e f)
    · exact .ownN u e f
  | own u e n f b el c g ht hc hl hi h1 h =>
    simp only [Ix.dropTag]
    split
    · exact .data (.lst e n f b 0 c g hc hl (fun i j a b => by simpa using hi i j a b) h1 h)
    · rename_i hne
      exact .own u e n f b el c g (hs _ _ (beq_false hne) ht) hc hl hi h1 h
  | raw u e n b el ht =>
    simp only [Ix.dropTag]
    split
    · exact .data (.dead _)
    · rename_i hne
      exact .raw u e n b el (hs _ _ (beq_false hne) ht)
  | agg xs vs hl h1 _ ih =>
    simp only [Ix.dropTag, dropTagL_eq]
    exact .agg _ vs (by simpa using hl) h1 fun j x hx => by obtain ⟨y, hy, rfl⟩ := map_get hx; exact ih j y hy
  | tup xs vs hl _ ih =>
    simp only [Ix.dropTag, dropTagL_eq]
    exact .tup _ vs (by simpa using hl) fun j x hx => by obtain ⟨y, hy, rfl⟩ := map_get hx; exact ih j y hy
  | fn f xs ys vs us hl hk _ _ ih ih' =>
    simp only [Ix.dropTag, dropTagL_eq]
    exact .fn f _ _ vs us (by simpa using hl) (by simpa using hk) (fun j x hx => by obtain ⟨y, hy, rfl⟩ := map_get hx; exact ih j y hy)
      (fun j x hx => by obtain ⟨y, hy, rfl⟩ := map_get hx; exact ih' j y hy)

theorem V.noTag {I : Imm} {β : Beta} {σ σ' : Sig} (t : Nat) (hs : ∀ u g, u ≠ t → σ u = some g → σ' u = some g) {x : IV} {v : Value} (h : V I β σ x v) :
    hasTag t x = false → V I β σ' x v := by
  induction h with
  | data h => exact fun _ => .data h
  | ptr l d off b h => exact fun _ => .ptr l d off b h
  | ownN u e f => exact fun _ => .ownN u e f
  | own u e n f b el c g ht hc hl hi h1 h => exact fun hn => .own u e n f b el c g (hs _ _ (beq_false hn) ht) hc hl hi h1 h
  | raw u e n b el ht => exact fun hn => .raw u e n b el (hs _ _ (beq_false hn) ht)
  | agg xs vs hl h1 _ ih => exact fun hn => .agg _ vs hl h1 fun j x hx => ih j x hx (hasTagL_spec t _ hn j x hx)
  | tup xs vs hl _ ih => exact fun hn => .tup _ vs hl fun j x hx => ih j x hx (hasTagL_spec t _ hn j x hx)
  | fn f xs ys vs us hl hk _ _ ih ih' =>
    intro hn
    simp [hasTag] at hn
    exact .fn f _ _ vs us hl hk (fun j x hx => ih j x hx (hasTagL_spec t _ hn.1 j x hx)) (fun j x hx => ih' j x hx (hasTagL_spec t _ hn.2 j x hx))

end Go.Proofs.YtllmejkmogepjaaDoor.Ix
