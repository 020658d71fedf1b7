/-
  Ix24: ordinary code: what is asked of the operations, in any frame.
-/
import Derived.Test.YtllmejkmogepjaaDoorX23
import Derived.RangeFuncSeq
namespace Go.Proofs.YtllmejkmogepjaaDoor.Ix
set_option linter.unusedVariables false
set_option linter.unusedSimpArgs false

section
variable {C : Con} {Γ : Env} {S : St} {a : Act} {w : World} {I : Imm} {X : Nat → Prop} {β : Beta} {σ : Nat → Sig} {K : St → Prop}

/-- The ordinary way: nothing carried; the world's extension. -/
def Wn (wr : Nat → Bool) : Way where
  wr := wr
  T := fun _ _ _ _ => True
  E := fun w I X w' I' X' => Ext I X w I' w' ∧ ∀ b, X b → X' b
  refl := fun w I X => ⟨.refl _ _ _, fun _ h => h⟩
  trans := fun h k => ⟨h.1.trans (k.1.sub h.2), fun b hb => k.2 b (h.2 b hb)⟩

theorem iop_noDefer {o : Oper} (h : iop C Γ S o K) : ∀ c, o.op ≠ .defer c := by
  intro c e
  unfold iop at h
  rw [e] at h
  simp [ival, e] at h

theorem opOK_n (wr : Nat → Bool) (hT : TOK Γ.P Γ.T) (hC : HC C Γ) (r : Option Nat) (n : Nat) : OpOK C Γ (Wn wr) r n := by
  intro o S K a w I X β σ Q hwr h hr _
  refine wpIn_of_wp (iop_noDefer h) (Oper.wp_mono ?_ (Oper.wp_put (iop_all hT hC o h hr Q)))
  rintro a' w' ⟨⟨S', I', β', σ', h1, h2, h3, h4⟩, hs⟩
  exact ⟨S', I', X, β', σ', h1, h2, trivial, ⟨h3, fun _ h => h⟩, h4, fun i hi => hs i fun e => by have : wr i = true := hwr i e; have hi : wr i = false := hi; rw [this] at hi; cases hi⟩

theorem Oper.wp_monoQ {P : Program} {o : Oper} {a : Act} {w : World} {K K' : Act → World → Prop} {Q1 Q : Exit → Act → World → Prop} (hp : ∀ c a w, ¬ Q1 (.panic c) a w) (ho : ¬ LetsOut Q1) (hK : ∀ a w, K a w → K' a w) (h : o.wp P a w K Q1) : o.wp P a w K' Q := by
  unfold Oper.wp at *
  generalize (execOp a.eval o).run P w = r at *
  cases r with
  | ok n w' =>
    cases n <;> simp only [Oper.upon] at h ⊢ <;>
      first
        | exact hK _ _ h
        | exact Calls.mono h (fun e w'' he => by cases e <;> first | exact hK _ _ he | exact (hp _ _ _ he).elim | exact (ho he).elim)
        | exact Rows.mono h (fun _ _ he => hK _ _ he)
  | halt x w' =>
    cases x <;> simp only [Oper.upon] at h ⊢
    case panic u => exact (hp _ _ _ h).elim

theorem wpAny_same {W : Way} {P : Program} {md : Region.Mode} {ops : Array Oper} {Q1 Q : Exit → Act → World → Prop} (hp : ∀ c a w, ¬ Q1 (.panic c) a w) (ho : ¬ LetsOut Q1) (hwr : ∀ o ∈ ops.toList, ∀ d, o.dst = some d → W.wr d = true) (a0 : Act)
    (hQ : ∀ a' w', Same W a0 a' → Q1 .normal a' w' → Q .normal a' w') : ∀ (fuel : Nat) (listed : Array Bool) (a : Act) (w : World), Same W a0 a → wpAny P md ops Q1 fuel listed a w → wpAny P md ops Q fuel listed a w
  | 0, _, a, w, hs, h => ⟨h.1, hQ a w hs h.2⟩
  | fuel + 1, listed, a, w, hs, h => by
    refine ⟨fun e => hQ a w hs (h.1 e), fun i hi => ?_⟩
    have h1 := h.2 i hi
    unfold wpOp at h1 ⊢
    cases hoi : ops[i]? with
    | none => simp only [hoi] at h1 ⊢; exact wpAny_same hp ho hwr a0 hQ fuel _ a w hs h1
    | some o =>
      have hwo := hwr o (List.mem_of_getElem? (i := i) (by simpa using hoi))
      simp only [hoi] at h1 ⊢
      by_cases hw : Region.wanted o (yielded ops a.tmps) = true
      · rw [if_pos hw] at h1 ⊢
        rcases h1 with h1 | h1
        · refine .inl (Oper.wp_monoQ hp ho (fun a' w' h' => ?_) (Oper.wp_put h1))
          refine wpAny_same hp ho hwr a0 hQ fuel _ a' w' (hs.trans fun j hj => h'.2 j fun e => ?_) h'.1
          have := hwo j e; rw [hj] at this; cases this
        · exact absurd h1.2 ho
      · rw [if_neg hw] at h1 ⊢
        exact wpAny_same hp ho hwr a0 hQ fuel _ _ w (hs.trans (Same.put a undef hwo)) h1

theorem draw_n (wr : Nat → Bool) (hm : Γ.P.follows .mixedOrders = true) (hT : TOK Γ.P Γ.T) (hC : HC C Γ) (r : Option Nat) (n : Nat) (id : Nat) (ops : Array Oper) (S : St) (K : St → Prop) (a : Act) (w : World) (I : Imm) (X : Nat → Prop) (β : Beta) (σ : Nat → Sig)
    (Q : Exit → Act → World → Prop) (hwr : ∀ o ∈ ops.toList, ∀ d, o.dst = some d → (Wn wr).wr d = true) (hq : ¬ LetsOut Q) (h : DRAW C Γ ops.toList K S) (hr : Rel Γ S a w I X β σ) (_ : (Wn wr).T S.up.length w I X)
    (hQ : ∀ a' w', AftG Γ (Wn wr) K I X w β σ a a' w' → Q .normal a' w') : (Code.region id ops true).wpIn (Fw r) n Γ.P Q a w := by
  obtain ⟨h1, h2⟩ := drawn_any (Q := fun e a' w' => match e with | .normal => Aft Γ K I X w β σ a' w' | _ => False) hT hC h hr (fun a' w' h => h)
  have h3 := wpAny_same (W := Wn wr) (Q := Q) (fun _ _ _ h => h) (fun ⟨_, _, h⟩ => h) hwr a (fun a' w' hs ha => hQ a' w' (by
    obtain ⟨S', I', β', σ', k1, k2, k3, k4⟩ := ha
    exact ⟨S', I', X, β', σ', k1, k2, trivial, ⟨k3, fun _ h => h⟩, k4, hs⟩)) _ _ _ _ (Same.refl _ _) h1
  exact wpIn_region_any hm (wpAnyIn_of_wpAny hq h2 _ _ _ _ h3)

/-- Code without a range over a function, in any frame. -/
theorem iwp_sound_r (hm : Γ.P.follows .mixedOrders = true) (hT : TOK Γ.P Γ.T) (hC : HC C Γ) (r : Option Nat) (n : Nat) (c : Code) (Q : Ex → St → Prop) (S : St) (a : Act) (w : World) (I : Imm) (X : Nat → Prop) (β : Beta) (σ : Nat → Sig) (wr : Nat → Bool)
    (hn : noRange c = true) (hw : ∀ d ∈ wrs c, wr d = true) (h : iwp C Γ c Q S) (hr : Rel Γ S a w I X β σ) : c.wpIn (Fw r) n Γ.P (QRG Γ (Wn wr) Q I X w β σ a) a w :=
  iwp_soundG (W := Wn wr) true false (opOK_n wr hT hC r n) (fun _ => draw_n wr hm hT hC r n) (fun e => by cases e) c Q S a w I X β σ (fun _ => hn) (fun e => by cases e) hw h hr trivial

/-! ### The iterators' word -/

structure Base (gl : Nat → IV) (w : World) (I : Imm) (X : Nat → Prop) : Prop where
  im : ∀ a v, I a = some v → w.cell? a = some v
  glo : ∀ g, D I (gl g) (.pointer (some ⟨g, 0, none⟩))
  xb : ∀ b, X b → b < w.heap.size

theorem Rel.base (r : Rel Γ S a w I X β σ) : Base Γ.gl w I X := ⟨r.mem.im, r.mem.glo, r.mem.xb⟩

/-- What a round keeps of the blocks of the function that is ranged over. -/
structure Kept (I : Imm) (Y : Nat → Prop) (w : World) (I' : Imm) (w' : World) : Prop where
  size : w.heap.size ≤ w'.heap.size
  keep : ∀ b, Y b → w'.heap[b]? = w.heap[b]?
  imm : ∀ a v, I a = some v → I' a = some v
  new : ∀ a, Y a.block → I' a = I a
  dfr : ∀ (k : Nat) c, w.heap[k]? = some (.deferred c) → w'.heap[k]? = some (.deferred c)

def notLoop : Obj → Bool
  | .loop _ => false
  | _ => true

def yv (l : Nat) : Value := .func (.yield l) #[] #[]

/-- A function that, called with the rounds' function in front, has n rounds, with these arguments one after another, or stops when a round says so. -/
def Vis (P : Program) (gl : Nat → IV) (g : Nat) (args : List IV) (n : Nat) (xs : Nat → List IV) : Prop :=
  (∃ fn c, P.funcs[g]? = some fn ∧ fn.body = some c ∧ (fn.name == "runtime.NumGoroutine") = false) ∧
  ∀ (l : Nat) (vals : Array Value) (J : Nat → World → Imm → (Nat → Prop) → Prop) (w : World) (I : Imm) (X : Nat → Prop),
    Base gl w I X → args.length = vals.size → (∀ (j : Nat) x, args[j]? = some x → D I x (vals.getD j undef)) →
    (∀ k w1 I1 X1 w2 I2, J k w1 I1 X1 → Ext I1 X1 w1 I2 w2 → Base gl w2 I2 X1 → J k w2 I2 X1) →
    (∀ (k : Nat) w1 I1 X1 (Y : Nat → Prop) (vs : Array Value), k < n → J k w1 I1 X1 → Base gl w1 I1 X1 → (∀ b, Y b → ¬ X1 b ∧ ∃ o, w1.heap[b]? = some o ∧ notLoop o = true) →
      (xs k).length = vs.size → (∀ (j : Nat) x, (xs k)[j]? = some x → D I1 x (vs.getD j undef)) →
      YieldAt (Fw none) 0 P l vs w1 fun e w2 => ∃ I2 X2 b, e = .returned (.bool b) ∧ Kept I1 Y w1 I2 w2 ∧ Base gl w2 I2 X2 ∧ (∀ b, Y b → ¬ X2 b) ∧ J (bif b then k + 1 else n + 1 + k) w2 I2 X2) →
    J 0 w I X →
    Calls P g (#[yv l] ++ vals) w fun e w' => ∃ v I' X' L, e = .returned v ∧ n ≤ L ∧ J L w' I' X' ∧ Base gl w' I' X'

theorem roundIn_any {n m : Nat} {P : Program} {l : Nat} {f : FuncId} {tmps : Array Value} {assign body : Code} {w : World} {R : Ending → World → Prop} (h : RoundIn (Fw none) n P l f tmps assign body w R) : RoundIn (Fw none) m P l f tmps assign body w R :=
  ⟨h.1, fun c cs _ => h.2 c cs (Fw_room _ _)⟩

end
end Go.Proofs.YtllmejkmogepjaaDoor.Ix
