/-
  Regions in the text's order, code, functions. Conditions: none.
-/
import Derived.Test.YthnjfpfcnpefaaaGreatK15
import Derived.Scope
import Derived.LoopN
namespace Go.Am
open Go.RowKit (Below)
/-- The walk's state and the evaluator's. -/
structure Rel (w0 : World) (nt : Nat) (m : Mp) (T : Tm) (σ : S) (a : Act) (w : World) : Prop where
  wr : WR w0 m σ w
  tr : TR m T a.tmps
  size : a.tmps.size = nt
  defers : a.defers = []
section
variable {P : Program} {w0 w : World} {m : Mp} {σ σ' : S} {T T' : Tm} {a : Act} {v : AVal} {call : Caller} {next : Act → World → Prop} {Q : Exit → Act → World → Prop} {nt : Nat}
theorem put_defers (a : Act) (d : Option Nat) (x : Value) : (a.put d x).defers = a.defers := by cases d <;> rfl
theorem Rel.put {m' : Mp} {w' : World} (h : Rel w0 nt m T σ a w) (hm : m.le m') (hW : WR w0 m' σ' w') {d : Option Nat} {s : Option Slot} (hd : DstOk nt d s) {x : Value} (hv : VR m' v x) : Rel w0 nt m' (T.put s v) σ' (a.put d x) w' :=
  ⟨hW, (h.tr.mono hm).putD (by rw [h.size]; exact hd) hv, by rw [put_size]; exact h.size, by rw [put_defers]; exact h.defers⟩
theorem Rel.putDone {w' : World} (h : Rel w0 nt m T σ a w) {d : Option Nat} {s : Option Slot} (hd : DstOk nt d s) {x : Value} (hv : Done w0 m σ v σ' x w') : ∃ m', Ext m m' σ σ' ∧ Rel w0 nt m' (T.put s v) σ' (a.put d x) w' := by
  obtain ⟨m', h1, h2, h3⟩ := hv
  exact ⟨m', h2, h.put h2.le h3 hd h1⟩
/-- What the compiler says of an operation. -/
structure CP (P : Program) (nt : Nat) (ops : Array Oper) (o : Oper) (p : POp) : Prop where
  op : cop P o.op = some p.op
  dst : DstOk nt o.dst p.dst
  guard : (o.guard = none ∧ p.guard = none) ∨ ∃ j want t s, o.guard = some (j, want) ∧ (ops[j]?).bind (·.dst) = some t ∧ Slot.of t = some s ∧ p.guard = some (s, want)
theorem cpop_ok {ops : Array Oper} {o : Oper} {p : POp} (h : cpop P nt ops o = some p) : CP P nt ops o p := by
  unfold cpop at h
  split at h
  · rename_i k d g hk hd hg
    cases h
    refine ⟨hk, ?_, ?_⟩
    · unfold cdst at hd
      split at hd
      · rename_i ho; cases hd; rw [ho]; trivial
      · rename_i t ho
        split at hd
        · rename_i hlt
          cases hs : Slot.of t with
          | none => rw [hs] at hd; cases hd
          | some s => rw [hs] at hd; cases hd; rw [ho]; exact ⟨hlt, hs⟩
        · cases hd
    · unfold cguard at hg
      split at hg
      · rename_i ho; cases hg; exact .inl ⟨ho, rfl⟩
      · rename_i j want ho
        split at hg
        · rename_i t ht
          cases hs : Slot.of t with
          | none => rw [hs] at hg; cases hg
          | some s => rw [hs] at hg; cases hg; exact .inr ⟨j, want, t, s, ho, ht, hs, rfl⟩
        · cases hg
  · cases h
theorem VR.ofBool {v : AVal} {b : Bool} (h : VR m v (.bool b)) : v = .bool b := by
  cases h with
  | v1 _ _ h => cases h with
    | one _ _ h => cases h; rfl
/-- Wanted here, wanted there. -/
theorem CP.wanted {ops : Array Oper} {o : Oper} {p : POp} (h : CP P nt ops o p) (hT : TR m T a.tmps) : Region.wanted o (yielded ops a.tmps) = Am.wanted p.guard T := by
  rcases h.guard with ⟨h1, h2⟩ | ⟨j, want, t, s, h1, h2, h3, h4⟩
  · rw [h2, wanted_none]; simp [Region.wanted, h1]
  · rw [h4, wanted_some]
    have hv := hT t s h3
    simp only [Region.wanted, h1, yielded, h2, Option.bind_some]
    have hg : a.tmps.getD t Go.undef = (a.tmps[t]?).getD Go.undef := by simp [Array.getD_eq_getD_getElem?]
    rw [hg] at hv
    generalize T.at s = u at hv
    have hnb : (∀ b, (a.tmps[t]?).getD Go.undef ≠ .bool b) → isB u want = false := fun h => by
      cases u with
      | bool b => exact absurd hv.bool (h b)
      | _ => rfl
    cases hx : a.tmps[t]? with
    | none =>
      rw [hnb (by rw [hx]; intro b h; cases h)]; rfl
    | some x =>
      rw [hx] at hv hnb
      simp only [Option.getD_some] at hv hnb
      cases x with
      | bool b =>
        rw [hv.ofBool]
        cases b <;> cases want <;> rfl
      | _ => rw [hnb (by intro b h; cases h)]; rfl
theorem op_step (hC : SimCall P w0 call) {ops : Array Oper} {o : Oper} {p : POp} (h : CP P nt ops o p) (hR : Rel w0 nt m T σ a w) (hv : evalOp call p T σ = some (T', σ'))
    (K : ∀ a' w' m', Ext m m' σ σ' → Rel w0 nt m' T' σ' a' w' → next a' w') :
    if Region.wanted o (yielded ops a.tmps) then o.wp P a w next Q else next (a.put o.dst undef) w := by
  rw [h.wanted hR.tr]
  obtain ⟨d, g, k⟩ := p
  have hv : (match Am.wanted g T with | true => opK k d call T σ | false => T.putK d .undef fun T => some (T, σ)) = some (T', σ') := by
    rw [← hv]
    cases hw : Am.wanted g T <;> simp only [evalOp, hw]
  cases hw : Am.wanted g T with
  | false =>
    rw [hw] at hv
    simp only [Tm.putK_eq, Option.some.injEq, Prod.mk.injEq] at hv
    obtain ⟨rfl, rfl⟩ := hv
    exact K _ _ m (Ext.refl _ _) (hR.put m.le_refl hR.wr h.dst .undef)
  | true =>
    rw [hw] at hv
    simp only at hv
    rw [if_pos rfl]
    have hop := h.op
    simp only at hop
    cases k with
    | q q =>
      have hv : opQ q d call T σ = some (T', σ') := hv
      unfold opQ at hv
      obtain ⟨v, h1, hv⟩ := andThen_eq.1 hv
      simp only [Tm.putK_eq, Option.some.injEq, Prod.mk.injEq] at hv
      obtain ⟨rfl, rfl⟩ := hv
      exact q_step hop hR.wr hR.tr h1 fun x hx => K _ _ m (Ext.refl _ _) (hR.put m.le_refl hR.wr h.dst hx)
    | a q =>
      have hv : opA q d call T σ = some (T', σ') := hv
      unfold opA at hv
      obtain ⟨⟨blk, mk⟩, h1, hv⟩ := andThen_eq.1 hv
      obtain ⟨⟨p, σ1⟩, h2, hv⟩ := andThen_eq.1 hv
      simp only [Tm.putK_eq, Option.some.injEq, Prod.mk.injEq] at hv
      obtain ⟨rfl, rfl⟩ := hv
      obtain ⟨rfl, nx, h3, rfl⟩ := alloc_eq h2
      have hf := hR.wr.fresh (Nat.le_refl σ.next.nat)
      exact a_step hop hR.wr hR.tr h1 hf (next_lt h3) (Nat.le_of_lt (next_lt h3)) fun x w' mi hw' hx =>
        K _ _ _ ⟨upd_le hf mi, fun b hb => upd_below (Nat.le_refl _) hb, Nat.le_of_lt (next_lt h3)⟩ (hR.put (upd_le hf mi) hw' h.dst hx)
    | e q =>
      have hv : opE q d call T σ = some (T', σ') := hv
      unfold opE at hv
      obtain ⟨⟨v, σ1⟩, h1, hv⟩ := andThen_eq.1 hv
      simp only [Tm.putK_eq, Option.some.injEq, Prod.mk.injEq] at hv
      obtain ⟨rfl, rfl⟩ := hv
      exact e_step hC hop hR.wr hR.tr h1 fun x w' hx => by
        obtain ⟨m', g1, g2⟩ := hR.putDone h.dst hx
        exact K _ _ m' g1 g2
/-- A region in the text's order. -/
theorem ops_step (hC : SimCall P w0 call) {ops : Array Oper} :
    ∀ (l : List POp) (i : Nat) (T : Tm) (σ : S) (m : Mp) (a : Act) (w : World) (T' : Tm) (σ' : S), cpops P nt ops (ops.toList.drop i) = some l → evalOps call l T σ = some (T', σ') → Rel w0 nt m T σ a w →
      (∀ a' w' m', Ext m m' σ σ' → Rel w0 nt m' T' σ' a' w' → Q .normal a' w') → wpOps P ops Q (List.range' i (ops.size - i)) a w := by
  intro l
  induction l with
  | nil =>
    intro i T σ m a w T' σ' hl hv hR hK
    have : ops.size - i = 0 := by
      cases hd : ops.toList.drop i with
      | nil => have := congrArg List.length hd; simpa using this
      | cons o r =>
        rw [hd] at hl; simp only [cpops] at hl
        split at hl <;> cases hl
    rw [this]
    rw [evalOps_nil] at hv
    cases hv
    exact hK a w m (Ext.refl _ _) hR
  | cons p l ih =>
    intro i T σ m a w T' σ' hl hv hR hK
    cases hd : ops.toList.drop i with
    | nil => rw [hd] at hl; cases hl
    | cons o r =>
      rw [hd] at hl
      simp only [cpops] at hl
      split at hl
      · rename_i p' l' h1 h2
        cases hl
        have hi : i < ops.size := by
          have := congrArg List.length hd
          simp at this; omega
        have hget : ops[i]? = some o := by
          have : (ops.toList.drop i)[0]? = some o := by rw [hd]; rfl
          simpa using this
        have hr : ops.toList.drop (i + 1) = r := by
          rw [← List.drop_drop, hd]; rfl
        rw [show ops.size - i = (ops.size - (i + 1)) + 1 by omega, List.range'_succ]
        rw [evalOps_cons] at hv
        obtain ⟨⟨T1, σ1⟩, hv1, hv2⟩ := andThen_eq.1 hv
        have := op_step (Q := Q) (next := wpOps P ops Q (List.range' (i + 1) (ops.size - (i + 1)))) hC (cpop_ok h1) hR hv1 (fun a' w' m' hE hR' =>
          ih (i + 1) T1 σ1 m' a' w' T' σ' (by rw [hr]; exact h2) hv2 hR' (fun a2 w2 m2 hE2 hR2 => hK a2 w2 m2 (hE.trans hE2) hR2))
        simp only [wpOps, hget]
        by_cases hw : Region.wanted o (yielded ops a.tmps) = true
        · rw [if_pos hw] at this ⊢; exact .inl this
        · rw [if_neg hw] at this ⊢; exact this
      · cases hl
end
end Go.Am
