/- A body that only lays literals, one operation behind the other, is run by the kernel at once: what it leaves, whatever the world. -/
import Derived.Tactics
import Derived.KernelRfl
import Derived.WalkKit
namespace Go.Proofs.Pt
open Go

/-- Operations one behind the other, none of which is guarded, calls, draws or halts. -/
def foldOps (P : Program) : List Oper → Act → World → Option (Act × World)
  | [], a, w => some (a, w)
  | o :: rest, a, w =>
    match o.guard, (execOp a.eval o).run P w with
    | none, .ok (.value v) w' => foldOps P rest (a.put o.dst v) w'
    | none, .ok .skip w' => foldOps P rest (a.put o.dst undef) w'
    | _, _ => none
def foldCode (P : Program) : Code → Act → World → Option (Exit × Act × World)
  | .region _ ops false, a, w => match foldOps P ops.toList a w with | some (a', w') => some (.normal, a', w') | none => none
  | .seq x y, a, w => match foldCode P x a w with | some (.normal, a', w') => foldCode P y a' w' | r => r
  | .ret, a, w => some (.ret, a, w)
  | .skip, a, w => some (.normal, a, w)
  | _, _, _ => none
theorem wpList_fold {P : Program} {ops : Array Oper} {Q : Exit → Act → World → Prop} : ∀ (l : List Oper) {a a' : Act} {w w' : World}, foldOps P l a w = some (a', w') → Q .normal a' w' → wpList P ops Q l a w
  | [], a, a', w, w', h, hQ => by
    simp only [foldOps, Option.some.injEq, Prod.mk.injEq] at h
    obtain ⟨rfl, rfl⟩ := h
    exact hQ
  | o :: rest, a, a', w, w', h, hQ => by
    simp only [foldOps] at h
    split at h
    · rename_i v w1 hg hr
      refine wpList_plain hg fun K hK => ?_
      show o.upon P a K Q ((execOp a.eval o).run P w)
      rw [hr]
      exact hK _ _ (wpList_fold rest h hQ)
    · rename_i w1 hg hr
      refine wpList_plain hg fun K hK => ?_
      show o.upon P a K Q ((execOp a.eval o).run P w)
      rw [hr]
      exact hK _ _ (wpList_fold rest h hQ)
    · cases h
theorem wp_fold {P : Program} : ∀ (c : Code) {Q : Exit → Act → World → Prop} {a a' : Act} {w w' : World} {e : Exit}, foldCode P c a w = some (e, a', w') → Q e a' w' → c.wp P Q a w := by
  intro c
  induction c with
  | region id ops b =>
    intro Q a a' w w' e h hQ
    cases b with
    | true => simp [foldCode] at h
    | false =>
      simp only [foldCode] at h
      split at h
      · rename_i a1 w1 hr
        simp only [Option.some.injEq, Prod.mk.injEq] at h
        obtain ⟨rfl, rfl, rfl⟩ := h
        exact wp_region_list (wpList_fold _ hr hQ)
      · cases h
  | seq x y ihx ihy =>
    intro Q a a' w w' e h hQ
    refine wp_seq ?_
    simp only [foldCode] at h
    split at h
    · rename_i a1 w1 hr
      exact ihx hr (ihy h hQ)
    · rename_i r hne
      refine ihx h ?_
      cases e with
      | normal => exact absurd h (by intro h'; exact hne a' w' h')
      | _ => exact hQ
  | ret => intro Q a a' w w' e h hQ; simp only [foldCode, Option.some.injEq, Prod.mk.injEq] at h; obtain ⟨rfl, rfl, rfl⟩ := h; exact wp_ret hQ
  | skip => intro Q a a' w w' e h hQ; simp only [foldCode, Option.some.injEq, Prod.mk.injEq] at h; obtain ⟨rfl, rfl, rfl⟩ := h; exact wp_skip hQ
  | _ => intro Q a a' w w' e h hQ; simp [foldCode] at h
/-- Such a body's call, out of three closed facts. -/
theorem calls_fold {P : Program} {f : FuncId} {fn : Func} {c : Code} {args : Array Value} {w w' : World} {a' : Act} {v : Value} {R : Ending → World → Prop} (hf : P.funcs[f]? = some fn) (hb : fn.body = some c)
    (h : foldCode P c { tmps := args ++ Array.replicate (fn.ntmps - args.size) undef, defers := [] } w = some (.ret, a', w')) (hd : a'.defers = []) (hr : (results fn a'.tmps).run P w' = .ok v w') (hR : R (.returned v) w') : Calls P f args w R :=
  calls_of_wp hf hb (wp_fold c h ⟨hd, v, hr, hR⟩)

/-! ### the same, a frame told by what was put last -/
def lookS : List (Nat × Value) → Nat → Value
  | [], _ => undef
  | (k, v) :: l, i => if k = i then v else lookS l i
def evS (l : List (Nat × Value)) : Operand → Value
  | .tmp t => lookS l t
  | .const v => v
  | .global g => .pointer (some ⟨g, 0, none⟩)
  | .func f => .func (.func f) #[] #[]
def foldS (P : Program) (n : Nat) : List Oper → List (Nat × Value) → World → Option (List (Nat × Value) × World)
  | [], l, w => some (l, w)
  | o :: rest, l, w =>
    match o.guard, o.dst, (execOp (evS l) o).run P w with
    | none, some d, .ok (.value v) w' => if d < n then foldS P n rest ((d, v) :: l) w' else none
    | _, _, _ => none
def foldC (P : Program) (n : Nat) : Code → List (Nat × Value) → World → Option (Bool × List (Nat × Value) × World)
  | .region _ ops false, l, w => match foldS P n ops.toList l w with | some (l', w') => some (false, l', w') | none => none
  | .seq x y, l, w => match foldC P n x l w with | some (false, l', w') => foldC P n y l' w' | r => r
  | .ret, l, w => some (true, l, w)
  | _, _, _ => none
structure Agrees (n : Nat) (a : Act) (l : List (Nat × Value)) : Prop where
  size : a.tmps.size = n
  defers : a.defers = []
  at_ : ∀ t, a.tmps.getD t undef = lookS l t
theorem Agrees.eval {n : Nat} {a : Act} {l : List (Nat × Value)} (h : Agrees n a l) : a.eval = evS l := by
  funext o
  cases o with
  | tmp t => exact h.at_ t
  | _ => rfl
theorem Agrees.put {n : Nat} {a : Act} {l : List (Nat × Value)} (h : Agrees n a l) {d : Nat} (hd : d < n) (v : Value) : Agrees n (a.put (some d) v) ((d, v) :: l) := by
  refine ⟨?_, ?_, fun t => ?_⟩
  · simp [Act.put, h.size]
  · simp [Act.put, h.defers]
  · have h1 := h.at_ t
    have h2 := h.size
    simp only [Act.put, lookS]
    simp only [Array.getD_eq_getD_getElem?] at h1 ⊢
    rw [Array.getElem?_setIfInBounds]
    by_cases e : d = t
    · subst e; simp [h2, hd]
    · simp [e]; exact h1
theorem agrees_start (n : Nat) : Agrees n { tmps := Array.replicate n undef, defers := [] } [] := by
  refine ⟨by simp, rfl, fun t => ?_⟩
  simp only [lookS, Array.getD_eq_getD_getElem?, Array.getElem?_replicate]
  split <;> rfl
theorem wpList_foldS {P : Program} {n : Nat} {ops : Array Oper} {Q : Exit → Act → World → Prop} : ∀ (l : List Oper) {a : Act} {s s' : List (Nat × Value)} {w w' : World}, foldS P n l s w = some (s', w') → Agrees n a s → (∀ a', Agrees n a' s' → Q .normal a' w') → wpList P ops Q l a w
  | [], a, s, s', w, w', h, hA, hQ => by
    simp only [foldS, Option.some.injEq, Prod.mk.injEq] at h
    obtain ⟨rfl, rfl⟩ := h
    exact hQ a hA
  | o :: rest, a, s, s', w, w', h, hA, hQ => by
    simp only [foldS] at h
    split at h
    · rename_i d v w1 hg hd hr
      split at h
      · rename_i hn
        refine wpList_plain hg fun K hK => ?_
        show o.upon P a K Q ((execOp a.eval o).run P w)
        rw [hA.eval, hr]
        show K (a.put o.dst v) w1
        rw [hd]
        exact hK _ _ (wpList_foldS rest h (hA.put hn v) hQ)
      · cases h
    · cases h
theorem wp_foldC {P : Program} {n : Nat} : ∀ (c : Code) {Q : Exit → Act → World → Prop} {a : Act} {s s' : List (Nat × Value)} {w w' : World} {b : Bool}, foldC P n c s w = some (b, s', w') → Agrees n a s → (∀ a', Agrees n a' s' → Q (if b then .ret else .normal) a' w') → c.wp P Q a w := by
  intro c
  induction c with
  | region id ops b =>
    intro Q a s s' w w' e h hA hQ
    cases b with
    | true => simp [foldC] at h
    | false =>
      simp only [foldC] at h
      split at h
      · rename_i a1 w1 hr
        simp only [Option.some.injEq, Prod.mk.injEq] at h
        obtain ⟨rfl, rfl, rfl⟩ := h
        exact wp_region_list (wpList_foldS _ hr hA hQ)
      · cases h
  | seq x y ihx ihy =>
    intro Q a s s' w w' e h hA hQ
    refine wp_seq ?_
    simp only [foldC] at h
    split at h
    · rename_i s1 w1 hr
      exact ihx hr hA fun a1 h1 => ihy h h1 hQ
    · rename_i r hne
      refine ihx h hA fun a1 h1 => ?_
      cases e with
      | false => exact absurd h (by intro h'; exact hne s' w' h')
      | true => exact hQ a1 h1
  | ret => intro Q a s s' w w' e h hA hQ; simp only [foldC, Option.some.injEq, Prod.mk.injEq] at h; obtain ⟨rfl, rfl, rfl⟩ := h; exact wp_ret (hQ a hA)
  | _ => intro Q a s s' w w' e h hA hQ; simp [foldC] at h
def toldS (P : Program) (fn : Func) (r : Nat) (w : World) : Option (Value × World) := match fn.body with | none => none | some c => match foldC P fn.ntmps c [] w with | some (true, l, w') => some (lookS l r, w') | _ => none
/-- Such a body's call, out of one closed fact. -/
theorem calls_told {P : Program} {f : FuncId} {fn : Func} (r : Nat) {w w' : World} {v : Value} {R : Ending → World → Prop} (hf : P.funcs[f]? = some fn) (hs : ∀ (tmps : Array Value) (w : World), (results fn tmps).run P w = .ok (tmps.getD r undef) w)
    (h : toldS P fn r w = some (v, w')) (hR : R (.returned v) w') : Calls P f #[] w R := by
  unfold toldS at h
  split at h
  · cases h
  · rename_i c hb
    split at h
    · rename_i l w1 hc
      simp only [Option.some.injEq, Prod.mk.injEq] at h
      obtain ⟨rfl, rfl⟩ := h
      refine calls_of_wp hf hb (wp_foldC c hc (by simpa using agrees_start fn.ntmps) fun a' hA => ?_)
      exact ⟨hA.defers, _, by rw [hs, hA.at_ r], hR⟩
    · cases h

end Go.Proofs.Pt
