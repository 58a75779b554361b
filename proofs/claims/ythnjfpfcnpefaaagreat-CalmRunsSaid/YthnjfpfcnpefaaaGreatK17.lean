/-
  Code and functions. Conditions: none.
-/
import Derived.Test.YthnjfpfcnpefaaaGreatK16
namespace Go.Am
open Go.RowKit (Below)
def exOf : Ex → Exit
  | .normal => .normal
  | .exit id => .exit id
  | .ret => .ret
/-- Statements whose order is open are as the evaluator has them. -/
def DrawSim (P : Program) (w0 : World) (call : Caller) : Prop :=
  ∀ nt ops l id T σ m a w T' σ' σ1 (Q : Exit → Act → World → Prop), planOf P nt ops = some l → σ.bumpN ops.size = some σ1 → evalDs call σ.next l T σ1 = some (T', σ') → Rel w0 nt m T σ a w →
    (∀ a' w' m', Ext m m' σ σ' → Rel w0 nt m' T' σ' a' w' → Q .normal a' w') → (Code.region id ops true).wp P Q a w
section
variable {P : Program} {w0 w : World} {m : Mp} {σ σ' : S} {T T' : Tm} {a : Act} {v : AVal} {call : Caller} {next : Act → World → Prop} {Q : Exit → Act → World → Prop} {nt : Nat}
theorem thenC_eq {next : Tm → S → Out} {o : Out} {r : Ex × Tm × S} (h : thenC next o = some r) : ∃ e T σ, o = some (e, T, σ) ∧ ((e = .normal ∧ next T σ = some r) ∨ (e ≠ .normal ∧ r = (e, T, σ))) := by
  unfold thenC at h
  obtain ⟨⟨e, T, σ⟩, h1, h⟩ := andThen_eq.1 h
  refine ⟨e, T, σ, h1, ?_⟩
  cases e with
  | normal => exact .inl ⟨rfl, h⟩
  | exit id => cases h; exact .inr ⟨by simp, rfl⟩
  | ret => cases h; exact .inr ⟨by simp, rfl⟩
theorem code_step (hC : SimCall P w0 call) (hD : DrawSim P w0 call) (fuel : Nat) (c : Code) : ∀ (pc : PC), cc P nt c = some pc → ∀ T σ m a w e T' σ' Q, evalC call fuel pc T σ = some (e, T', σ') → Rel w0 nt m T σ a w →
    (∀ a' w' m', Ext m m' σ σ' → Rel w0 nt m' T' σ' a' w' → Q (exOf e) a' w') → c.wp P Q a w := by
  induction c with
  | skip =>
    intro pc h T σ m a w e T' σ' Q hv hR K
    cases h; cases hv
    exact wp_skip (K _ _ m (Ext.refl _ _) hR)
  | label l =>
    intro pc h T σ m a w e T' σ' Q hv hR K
    cases h; cases hv
    exact wp_label (K _ _ m (Ext.refl _ _) hR)
  | exit id =>
    intro pc h T σ m a w e T' σ' Q hv hR K
    cases h; cases hv
    exact wp_exit (K _ _ m (Ext.refl _ _) hR)
  | ret =>
    intro pc h T σ m a w e T' σ' Q hv hR K
    cases h; cases hv
    exact wp_ret (K _ _ m (Ext.refl _ _) hR)
  | region id ops draw =>
    intro pc h T σ m a w e T' σ' Q hv hR K
    cases draw with
    | false =>
      simp only [cc] at h
      cases hp : cpops P nt ops ops.toList with
      | none => rw [hp] at h; cases h
      | some l =>
        rw [hp] at h; cases h
        have hv : cOps call l T σ = some (e, T', σ') := hv
        unfold cOps at hv
        obtain ⟨⟨T1, σ1⟩, h1, h2⟩ := andThen_eq.1 hv
        cases h2
        refine wp_region ?_
        have := ops_step (Q := Q) hC (ops := ops) l 0 T σ m a w T' σ' (by simpa using hp) h1 hR K
        simpa [List.range_eq_range'] using this
    | true =>
      simp only [cc] at h
      cases hp : planOf P nt ops with
      | none => rw [hp] at h; cases h
      | some l =>
        rw [hp] at h; cases h
        have hv : cDraw call ops.size l T σ = some (e, T', σ') := hv
        unfold cDraw at hv
        obtain ⟨σ1, h1, hv⟩ := andThen_eq.1 hv
        obtain ⟨⟨T2, σ2⟩, h2, h3⟩ := andThen_eq.1 hv
        cases h3
        exact hD nt ops l id T σ m a w T' σ' σ1 Q hp h1 h2 hR K
  | seq x y ihx ihy =>
    intro pc h T σ m a w e T' σ' Q hv hR K
    simp only [cc] at h
    split at h
    · rename_i px py hx hy
      cases h
      have hv : thenC (evalC call fuel py) (evalC call fuel px T σ) = some (e, T', σ') := hv
      obtain ⟨e1, T1, σ1, h1, h2⟩ := thenC_eq hv
      refine wp_seq (ihx px hx T σ m a w e1 T1 σ1 _ h1 hR ?_)
      intro a1 w1 m1 hE hR1
      rcases h2 with ⟨rfl, h2⟩ | ⟨hne, h2⟩
      · exact ihy py hy T1 σ1 m1 a1 w1 e T' σ' Q h2 hR1 fun a2 w2 m2 hE2 hR2 => K a2 w2 m2 (hE.trans hE2) hR2
      · cases h2
        cases e with
        | normal => exact absurd rfl hne
        | exit id => exact K a1 w1 m1 hE hR1
        | ret => exact K a1 w1 m1 hE hR1
    · cases h
  | cond c x y ihx ihy =>
    intro pc h T σ m a w e T' σ' Q hv hR K
    simp only [cc] at h
    split at h
    · rename_i pc' px py hc hx hy
      cases h
      have hv : cCond pc' (evalC call fuel px) (evalC call fuel py) T σ = some (e, T', σ') := hv
      unfold cCond at hv
      have hcv := copd_ok hR.tr hc
      split at hv
      · rename_i t ht
        rw [ht] at hcv
        refine wp_cond hcv.bool ?_
        cases t with
        | true => exact ihx px hx T σ m a w e T' σ' Q hv hR K
        | false => exact ihy py hy T σ m a w e T' σ' Q hv hR K
      · cases hv
    · cases h
  | block id c ih =>
    intro pc h T σ m a w e T' σ' Q hv hR K
    simp only [cc] at h
    cases hp : cc P nt c with
    | none => rw [hp] at h; cases h
    | some p =>
      rw [hp] at h; cases h
      have hv : cBlock id (evalC call fuel p) T σ = some (e, T', σ') := hv
      unfold cBlock at hv
      obtain ⟨⟨e1, T1, σ1⟩, h1, hv⟩ := andThen_eq.1 hv
      refine wp_block (ih p hp T σ m a w e1 T1 σ1 _ h1 hR ?_)
      intro a1 w1 m1 hE hR1
      cases e1 with
      | normal => cases hv; exact K a1 w1 m1 hE hR1
      | ret => cases hv; exact K a1 w1 m1 hE hR1
      | exit i =>
        simp only at hv
        show (if i = id then Q .normal a1 w1 else Q (.exit i) a1 w1)
        cases hb : Nat.beq i id with
        | true =>
          rw [hb] at hv
          cases hv
          rw [if_pos (Nat.eq_of_beq_eq_true hb)]
          exact K a1 w1 m1 hE hR1
        | false =>
          rw [hb] at hv
          cases hv
          rw [if_neg (fun e => by subst e; simp at hb)]
          exact K a1 w1 m1 hE hR1
  | loop c ih =>
    intro pc h T σ m a w e T' σ' Q hv hR K
    simp only [cc] at h
    cases hp : cc P nt c with
    | none => rw [hp] at h; cases h
    | some p =>
      rw [hp] at h; cases h
      have hv : iter (evalC call fuel p) fuel T σ = some (e, T', σ') := hv
      refine wp_loop_rounds fuel ?_
      have : ∀ n T σ m a w, iter (evalC call fuel p) n T σ = some (e, T', σ') → Rel w0 nt m T σ a w → (∀ a' w' m', Ext m m' σ σ' → Rel w0 nt m' T' σ' a' w' → Q (exOf e) a' w') → Code.rounds P c Q n a w := by
        intro n
        induction n with
        | zero => intro T σ m a w hv; cases hv
        | succ n ihn =>
          intro T σ m a w hv hR K
          rw [iter_succ] at hv
          obtain ⟨e1, T1, σ1, h1, h2⟩ := thenC_eq hv
          rw [rounds_succ]
          refine ih p hp T σ m a w e1 T1 σ1 _ h1 hR ?_
          intro a1 w1 m1 hE hR1
          rcases h2 with ⟨rfl, h2⟩ | ⟨hne, h2⟩
          · exact ihn T1 σ1 m1 a1 w1 h2 hR1 fun a2 w2 m2 hE2 hR2 => K a2 w2 m2 (hE.trans hE2) hR2
          · cases h2
            cases e with
            | normal => exact absurd rfl hne
            | exit id => exact K a1 w1 m1 hE hR1
            | ret => exact K a1 w1 m1 hE hR1
      exact this fuel T σ m a w hv hR K
  | scope c ih =>
    intro pc h T σ m a w e T' σ' Q hv hR K
    simp only [cc] at h
    refine wp_scope_straight (ih pc h T σ m a w e T' σ' _ hv hR ?_)
    intro a1 w1 m1 hE hR1
    have := K a1 w1 m1 hE hR1
    cases e <;> exact this
  | _ => intro pc h; simp only [cc] at h; cases h
end
end Go.Am
