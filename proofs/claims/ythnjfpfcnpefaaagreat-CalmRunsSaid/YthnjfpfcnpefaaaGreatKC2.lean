/-
  Pieces of a run, each tested by the kernel. Conditions: none.
-/
import Derived.Test.YthnjfpfcnpefaaaGreatKC1
namespace Go.Am
open Go.RowKit (Below)
noncomputable def noC : Caller := fun _ _ _ => none
noncomputable def noL : Tm → S → Out := fun _ _ => none
noncomputable def noT (_ : Tm) (_ : S) : Bool := false
section
variable {P : Program}
theorem noC_sim (w0 : World) : SimCall P w0 noC := fun f args σ v σ' w m xs h => by cases h
theorem noC_fr : Framed noC := fun f args σ r σ' h => by cases h
theorem noC_draw (hm : P.follows .mixedOrders = true) (w0 : World) : DrawSim P w0 noC := draw_sim hm (noC_sim w0) noC_fr
theorem tabF_sim (hm : P.follows .mixedOrders = true) (t : Tr CFn) (n : Nat) (w0 : World) : SimCall P w0 (evalF (tabF P t) n) := sound hm (fun f p => tabF_ok f p) n
theorem tabF_draw (hm : P.follows .mixedOrders = true) (t : Tr CFn) (n : Nat) (w0 : World) : DrawSim P w0 (evalF (tabF P t) n) := draw_sim hm (tabF_sim hm t n w0) (eval_fr _ n)
/-- A call from a memory. -/
theorem known_run {hk : List (Nat × PFn)} {need n f : Nat} {args : List AVal} {hs hs' : List (Pos × Blk)} {ms ms' : List (Pos × MBlk)} {next next' : Pos} {v : AVal} (hm : P.follows .mixedOrders = true) (hh : ∀ f p, (f, p) ∈ hk → HookOk P f p)
    (h : layTabG P hk need (fun t => onS (mkS hs ms next) fun σ => evalB (tabG t) n f args σ (fun v' σ => eqT v' v && lessB σ hs' ms' next')) = true) : Known P f args (mkS hs ms next) v (mkS hs' ms' next') := by
  obtain ⟨t, ht, h⟩ := layTabG_ok hh h
  rw [onS_eq, evalB_ok ht n f args (mkS hs ms next)] at h
  cases he : evalF (tabF P t) n f args (mkS hs ms next) with
  | none => rw [he] at h; cases h
  | some x =>
    obtain ⟨v', σ'⟩ := x
    rw [he] at h
    have h : (eqT v' v && lessB σ' hs' ms' next') = true := h
    simp only [Bool.and_eq_true] at h
    intro w0 w m xs hW hx
    obtain ⟨h1, h2⟩ := tabF_sim hm t n w0 f args _ v' σ' w m xs he hW hx
    have e := eqT_to h.1
    subst e
    exact ⟨h1, Calls.mono h2 fun e w' hE => hE.to (lessB_ok h.2)⟩
/-- The one loop of a function. -/
def LoopIs (P : Program) (f : Nat) (p : PC) : Prop := ∃ slots body res, tabOf P f = some (.code slots body res) ∧ loopsOf body = [p]
noncomputable def onLoop (P : Program) (f : Nat) (k : PC → Bool) : Bool := match tabOf P f with
  | some fn => match fn with
    | .code _ body _ => match loopsOf body with
      | [] => false
      | p :: l => match l with
        | [] => forcePC p k
        | _ :: _ => false
    | _ => false
  | none => false
theorem onLoop_ok {f : Nat} {k : PC → Bool} (h : onLoop P f k = true) {p : PC} (hp : LoopIs P f p) : k p = true := by
  obtain ⟨slots, body, res, h1, h2⟩ := hp
  unfold onLoop at h
  rw [h1] at h
  simp only [h2, forcePC_eq] at h
  exact h
noncomputable def roundsB (b : K2) (cb : CB) (fuel : Nat) (k : KT) (m : Nat) : KT := @Nat.rec (fun _ => KT) k (fun _ ih T σ => b cb fuel ih noEx noT T σ) m
theorem loop_rounds {call : Caller} (hC : ∀ w0, SimCall P w0 call) (hD : ∀ w0, DrawSim P w0 call) {b : K2} {p : PC} (hb : IsC b p) {cb : CB} (hs : SimB cb call) {fuel nt n : Nat} {k : KT} {e : Ex} {T' : Tm} {σ' : S}
    (hk : ∀ T σ, k T σ = true → LoopOk P nt n p T σ e T' σ') : ∀ (m : Nat) (T : Tm) (σ : S), roundsB b cb fuel k m T σ = true → LoopOk P nt (n + m) p T σ e T' σ'
  | 0, T, σ, h => hk T σ h
  | m + 1, T, σ, h => by
    have h : b cb fuel (roundsB b cb fuel k m) noEx noT T σ = true := h
    rw [hb cb call fuel _ _ _ T σ hs] at h
    cases he : evalC call fuel p T σ with
    | none => rw [he] at h; cases h
    | some x =>
      obtain ⟨e1, T1, σ1⟩ := x
      rw [he] at h
      cases e1 with
      | normal => exact loop_round hC hD he (loop_rounds hC hD hb hs hk m T1 σ1 h)
      | exit i => cases h
      | ret => cases h
/-- Some rounds of a loop. -/
theorem rounds_run {hk : List (Nat × PFn)} {need n fuel K f : Nat} {tl tl' : List (Nat × AVal)} {hs hs' : List (Pos × Blk)} {ms ms' : List (Pos × MBlk)} {next next' : Pos} (hm : P.follows .mixedOrders = true) (hh : ∀ f p, (f, p) ∈ hk → HookOk P f p)
    (h : layTabG P hk need (fun t => onLoop P f fun p => compC p fun b => onT (mkT tl) fun T => onS (mkS hs ms next) fun σ => roundsB b (evalB (tabG t) n) fuel (fun T σ => tmB T (mkT tl') && lessB σ hs' ms' next') K T σ) = true)
    {p : PC} (hp : LoopIs P f p) {nt r : Nat} {e : Ex} {T2 : Tm} {σ2 : S} (h2 : LoopOk P nt r p (mkT tl') (mkS hs' ms' next') e T2 σ2) : LoopOk P nt (r + K) p (mkT tl) (mkS hs ms next) e T2 σ2 := by
  obtain ⟨t, ht, h⟩ := layTabG_ok hh h
  have h := onLoop_ok h hp
  obtain ⟨b, hb, he⟩ := compC_ok p
  rw [he, onT_eq, onS_eq] at h
  refine loop_rounds (tabF_sim hm t n) (tabF_draw hm t n) hb (evalB_ok ht n) (fun T σ hk => ?_) K _ _ h
  simp only [Bool.and_eq_true] at hk
  exact h2.from (lessB_ok hk.2) (tmB_ok hk.1)
/-- A loop to its end. -/
theorem loop_run {hk : List (Nat × PFn)} {need n fuel K f id : Nat} {tl tl' : List (Nat × AVal)} {hs hs' : List (Pos × Blk)} {ms ms' : List (Pos × MBlk)} {next next' : Pos} (hm : P.follows .mixedOrders = true) (hh : ∀ f p, (f, p) ∈ hk → HookOk P f p)
    (h : layTabG P hk need (fun t => onLoop P f fun p => compC p fun b => onT (mkT tl) fun T => onS (mkS hs ms next) fun σ => iterB b (evalB (tabG t) n) fuel (fun i T σ => Nat.beq i id && (tmB T (mkT tl') && lessB σ hs' ms' next')) noT K T σ) = true)
    {p : PC} (hp : LoopIs P f p) {nt : Nat} : LoopOk P nt K p (mkT tl) (mkS hs ms next) (.exit id) (mkT tl') (mkS hs' ms' next') := by
  obtain ⟨t, ht, h⟩ := layTabG_ok hh h
  have h := onLoop_ok h hp
  obtain ⟨b, hb, he⟩ := compC_ok p
  rw [he, onT_eq, onS_eq, iterB_ok hb (evalB_ok ht n) fuel noT] at h
  cases hv : iter (evalC (evalF (tabF P t) n) fuel p) K (mkT tl) (mkS hs ms next) with
  | none => rw [hv] at h; cases h
  | some x =>
    obtain ⟨e1, T1, σ1⟩ := x
    rw [hv] at h
    cases e1 with
    | normal => cases h
    | ret => cases h
    | exit i =>
      have h : (Nat.beq i id && (tmB T1 (mkT tl') && lessB σ1 hs' ms' next')) = true := h
      simp only [Bool.and_eq_true] at h
      have e := Nat.eq_of_beq_eq_true h.1
      subst e
      exact (loop_eval (tabF_sim hm t n) (tabF_draw hm t n) hv).to (lessB_ok h.2.2) (tmB_ok h.2.1)
/-- A loop that is known from some temporaries and a memory. -/
noncomputable def lkOf (tl : List (Nat × AVal)) (hs : List (Pos × Blk)) (ms : List (Pos × MBlk)) (next : Pos) (o : Ex × Tm × S) (T : Tm) (σ : S) : Out := match tmB T (mkT tl) && lessB σ hs ms next with
  | true => some o
  | false => none
noncomputable def outIs (o : Option (AVal × S)) (k : AVal → S → Bool) : Bool := match o with
  | some x => k x.1 x.2
  | none => false
noncomputable def fnTest (P : Program) (f : Nat) (lk : Tm → S → Out) (args : List AVal) (σ : S) (k : AVal → S → Bool) : Bool := match tabOf P f with
  | some fn => match fn with
    | .code slots body res => match loopsOf body with
      | [] => false
      | _ :: l => match l with
        | [] => outIs (runC2 noC noC lk slots body res args σ) k
        | _ :: _ => false
    | _ => false
  | none => false
theorem fnTest_is {f : Nat} {lk : Tm → S → Out} {args : List AVal} {σ : S} {k : AVal → S → Bool} (h : fnTest P f lk args σ k = true) : ∃ p, LoopIs P f p := by
  unfold fnTest at h
  split at h
  · rename_i fn hf
    split at h
    · rename_i slots body res
      split at h
      · cases h
      · rename_i p l hl
        split at h
        · exact ⟨p, slots, body, res, hf, hl⟩
        · cases h
    · cases h
  · cases h
/-- A function with one loop, that is known. -/
theorem known_loop {f : Nat} {args : List AVal} {tl : List (Nat × AVal)} {hs hs1 hs' : List (Pos × Blk)} {ms ms1 ms' : List (Pos × MBlk)} {next next1 next' : Pos} {v : AVal} {o : Ex × Tm × S} (hm : P.follows .mixedOrders = true)
    (h : fnTest P f (lkOf tl hs1 ms1 next1 o) args (mkS hs ms next) (fun v' σ => eqT v' v && lessB σ hs' ms' next') = true)
    (hL : ∀ p, LoopIs P f p → ∀ nt, ∃ n, LoopOk P nt n p (mkT tl) (mkS hs1 ms1 next1) o.1 o.2.1 o.2.2) : Known P f args (mkS hs ms next) v (mkS hs' ms' next') := by
  intro w0 w m xs hW hx
  have his := fnTest_is h
  obtain ⟨p, slots, body, res, h1, h2⟩ := his
  unfold fnTest at h
  rw [h1] at h
  simp only [h2] at h
  cases he : runC2 noC noC (lkOf tl hs1 ms1 next1 o) slots body res args (mkS hs ms next) with
  | none => rw [he] at h; cases h
  | some x =>
    obtain ⟨v', σ'⟩ := x
    rw [he] at h
    have h : (eqT v' v && lessB σ' hs' ms' next') = true := h
    simp only [Bool.and_eq_true] at h
    have e := eqT_to h.1
    subst e
    obtain ⟨g1, g2⟩ := fn_step2 (noC_sim w0) (noC_draw hm w0) h1 (fun q hq T σ e T' σ' hlk nt => by
      rw [h2] at hq
      have e := List.mem_singleton.1 hq
      subst e
      unfold lkOf at hlk
      split at hlk
      · rename_i ht
        cases hlk
        simp only [Bool.and_eq_true] at ht
        obtain ⟨n, hn⟩ := hL q ⟨slots, body, res, h1, h2⟩ nt
        exact ⟨n, hn.from (lessB_ok ht.2) (tmB_ok ht.1)⟩
      · cases hlk) he hW hx
    exact ⟨g1, Calls.mono g2 fun e w' hE => hE.to (lessB_ok h.2)⟩
noncomputable def lawTest (P : Program) (f n : Nat) (l : List KCall) (t : Tr PFn) : Bool := match tabOf P f with
  | some fn => match fn with
    | .code slots body res => isTrue (runC2 (kcall l (evalF (tabT t) n)) (evalF (tabT t) n) noL slots body res [] S.start)
    | _ => false
  | none => false
/-- A law whose great calls are known. -/
theorem closed_known {hk : List (Nat × PFn)} {need n f : Nat} {l : List KCall} (hm : P.follows .mixedOrders = true) (hh : ∀ f p, (f, p) ∈ hk → HookOk P f p) (hl : ∀ c ∈ l, c.Ok P) (h : layTab P hk need (lawTest P f n l) = true) (w : World) :
    Calls P f #[] w fun | .returned x, w' => x = .bool true ∧ Below w.heap.size w w' | _, _ => False := by
  obtain ⟨t, ht, h⟩ := layTab_ok hh h
  unfold lawTest at h
  split at h
  · rename_i fn hf
    split at h
    · rename_i slots body res
      obtain ⟨σ', he⟩ := isTrue_iff h
      have hS : SimCall P w (evalF (tabT t) n) := sound hm ht n
      obtain ⟨_, h2⟩ := fn_step2 (w0 := w) (m := fun _ => none) (xs := #[]) (kcall_sim hS hl) (draw_sim hm hS (eval_fr _ n)) hf (fun p _ T σ e T' σ' hlk => by cases hlk) he (WR.start w) .nil
      refine Calls.mono h2 fun e w' he => ?_
      cases e with
      | returned x =>
        obtain ⟨m', h1, _, h3⟩ := he
        exact ⟨h1.bool, h3.below⟩
      | panicked c => exact he.elim
      | outgrown => exact he.elim
    · cases h
  · cases h
end
end Go.Am
