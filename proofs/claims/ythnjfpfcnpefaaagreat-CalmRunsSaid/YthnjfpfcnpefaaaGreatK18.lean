/-
  Functions, and the table of functions. Conditions: none.
-/
import Derived.Test.YthnjfpfcnpefaaaGreatK17
namespace Go.Am
open Go.RowKit (Below)
def resSem (tmps : Array Value) : ResultVar → Sem Value
  | .tmp t => pure (tmps.getD t Go.undef)
  | .cell a t => do loadVar t (← asAddr (tmps.getD a Go.undef))
theorem results_eq (fn : Func) (tmps : Array Value) : results fn tmps = (do
    let vs ← fn.results.mapM (resSem tmps)
    pure (if h : vs.size = 1 then vs[0] else .tuple vs)) := by
  unfold results resSem; rfl
section
variable {P : Program} {w0 w : World} {m : Mp} {σ σ' : S} {T T' : Tm} {a : Act} {v : AVal} {call : Caller} {nt : Nat}
theorem VR.v1' {x : Value} (h : VR m v x) (hv : isV1 v = true) : V1 m v x := by
  cases h with
  | v1 _ _ h => exact h
  | tup _ _ _ => cases hv
theorem res_run (hW : WR w0 m σ w) (hT : TR m T a.tmps) : ∀ (l : List ResultVar) (ps : List PRes) (vs : List AVal), cres P l = some ps → resAll T σ ps = some vs → ∃ xs : List Value, (l.mapM (resSem a.tmps)).run P w = .ok xs w ∧ V1s m vs xs
  | [], ps, vs, h, hv => by cases h; cases hv; exact ⟨[], rfl, .nil⟩
  | r :: l, ps, vs, h, hv => by
    have key : ∀ p ps', cres P l = some ps' → (∀ v, resOf T σ p = some v → ∃ x, (resSem a.tmps r).run P w = .ok x w ∧ VR m v x) → resAll T σ (p :: ps') = some vs → ∃ xs : List Value, ((r :: l).mapM (resSem a.tmps)).run P w = .ok xs w ∧ V1s m vs xs := by
      intro p ps' h1 h2 hv
      unfold resAll at hv
      obtain ⟨v, hv1, hv⟩ := andThen_eq.1 hv
      rw [headK_eq] at hv
      obtain ⟨hv2, hv⟩ := test_eq.1 hv
      obtain ⟨vs', hv3, hv⟩ := andThen_eq.1 hv
      cases hv
      obtain ⟨x, hx, hr⟩ := h2 v hv1
      obtain ⟨xs, hxs, hrs⟩ := res_run hW hT l ps' vs' h1 hv3
      exact ⟨x :: xs, by simp [List.mapM_cons, hx, hxs], .cons _ _ _ _ (hr.v1' hv2) hrs⟩
    cases r with
    | tmp t =>
      simp only [cres, bindSome] at h
      obtain ⟨s, hs, ps', hps, h⟩ := h
      cases h
      refine key _ _ hps ?_ hv
      intro v hv1
      cases hv1
      exact ⟨_, rfl, hT t s hs⟩
    | cell c t =>
      simp only [cres, bindSome] at h
      obtain ⟨ps', hps, h⟩ := h
      split at h
      · rename_i hagg
        simp only [bindSome] at h
        obtain ⟨n, hn, s, hs, h⟩ := h
        cases h
        refine key _ _ hps ?_ hv
        intro v hv1
        have hx' := hT c s hs
        simp only [resOf] at hv1
        unfold vLoadN at hv1
        split at hv1
        · rename_i b o hp
          rw [hp] at hx'
          obtain ⟨mi, hm, ho⟩ := hx'.ptr
          obtain ⟨cs, hr, hn'⟩ := andThen_eq.1 hv1
          cases hn'
          obtain ⟨xs, h1, h2, _⟩ := hW.read hr hm P
          refine ⟨.agg xs.toArray, ?_, .v1 _ _ (.agg _ _ (by simpa using h2))⟩
          simp only [resSem, ho]
          simp [asAddr, loadVar, isAggB_run t (isAggB_some hagg), hagg, sizeOf_run hn, h1]
        · cases hv1
      · rename_i hagg
        split at h
        · rename_i hu
          simp only [bindSome] at h
          obtain ⟨s, hs, h⟩ := h
          cases h
          refine key _ _ hps ?_ hv
          intro v hv1
          have hx' := hT c s hs
          simp only [resOf] at hv1
          unfold vLoad1 at hv1
          split at hv1
          · rename_i b o hp
            rw [hp] at hx'
            obtain ⟨mi, hm, ho⟩ := hx'.ptr
            obtain ⟨blk, hb, hn⟩ := andThen_eq.1 hv1
            rw [nthV_eq] at hn
            obtain ⟨z, hz, hs⟩ := hW.cell hb hm hn
            refine ⟨z, ?_, hs.vr⟩
            simp only [resSem, ho]
            simp [asAddr, loadVar, isAggB_run t hu, hagg, hz]
          · cases hv1
        · cases h
theorem leave_run {fn : Func} {ps : List PRes} (hps : cres P fn.results.toList = some ps) (hW : WR w0 m σ w) (hT : TR m T a.tmps) (h : leave ps T σ = some (v, σ')) : ∃ x, (results fn a.tmps).run P w = .ok x w ∧ VR m v x ∧ σ' = σ := by
  unfold leave at h
  obtain ⟨vs, hvs, h⟩ := andThen_eq.1 h
  obtain ⟨xs, hx, hr⟩ := res_run hW hT _ _ _ hps hvs
  have hm : (fn.results.mapM (resSem a.tmps)).run P w = .ok xs.toArray w := by
    rw [← Array.toArray_toList (xs := fn.results), List.mapM_toArray]
    simp [hx]
  rw [results_eq]
  simp only [Sem.run_bind, hm, Result.andThen_ok, Sem.run_pure]
  unfold outVs at h
  split at h
  · cases hr; cases h
    exact ⟨_, rfl, .tup _ _ .nil, rfl⟩
  · rename_i v0 r
    cases hr with
    | cons _ x _ xs h1 h2 =>
      split at h
      · cases h2; cases h
        exact ⟨x, rfl, .v1 _ _ h1, rfl⟩
      · rename_i v1 r' hne
        cases h2 with
        | nil => exact absurd rfl hne
        | cons _ y _ ys h3 h4 =>
          cases h
          refine ⟨.tuple (x :: y :: ys).toArray, ?_, .tup _ _ (.cons _ _ _ _ h1 (.cons _ _ _ _ h3 h4)), rfl⟩
          rw [dif_neg (by simp)]
theorem enter_ok {k : Tm → Option (AVal × S)} {r : AVal × S} : ∀ (args : List AVal) (xs : List Value) (n j : Nat) (slots : List Slot) (T : Tm) (pre : Array Value), slotsFrom n j = some slots → pre.size = j → VRs m args xs →
    TR m T (pre ++ Array.replicate n Go.undef) → enterK args slots T k = some r → xs.length ≤ n ∧ ∃ T', TR m T' (pre ++ xs.toArray ++ Array.replicate (n - xs.length) Go.undef) ∧ k T' = some r := by
  intro args
  induction args with
  | nil =>
    intro xs n j slots T pre hs hp hv hT h
    cases hv
    exact ⟨by simp, T, by simpa using hT, h⟩
  | cons v args ih =>
    intro xs n j slots T pre hs hp hv hT h
    cases hv with
    | cons _ x _ xs hx hxs =>
      cases n with
      | zero => cases hs; cases h
      | succ n =>
        simp only [slotsFrom] at hs
        split at hs
        · rename_i s l h1 h2
          cases hs
          unfold enterK at h
          simp only [Ts.setK_eq] at h
          have hT' := hT.put (d := j) (s := s) (by simp; omega) h1 hx
          have harr : (pre ++ Array.replicate (n + 1) Go.undef).setIfInBounds j x = pre.push x ++ Array.replicate n Go.undef := by
            subst hp
            apply Array.ext'
            simp [List.replicate_succ]
          rw [harr] at hT'
          obtain ⟨g1, T', g2, g3⟩ := ih xs n (j + 1) l _ (pre.push x) h2 (by simp [hp]) hxs hT' h
          refine ⟨by simpa using g1, T', ?_, g3⟩
          have : pre ++ (x :: xs).toArray ++ Array.replicate (n + 1 - (x :: xs).length) Go.undef = pre.push x ++ xs.toArray ++ Array.replicate (n - xs.length) Go.undef := by
            apply Array.ext'
            simp
          rw [this]; exact g2
        · cases hs
theorem VRs.length {l : List AVal} {r : List Value} (h : VRs m l r) : r.length = l.length := by
  induction h with
  | nil => rfl
  | cons _ _ _ _ _ _ ih => simp [ih]
/-- A FUNCTION, its calls being as the evaluator has them. -/
theorem fn_step (hC : SimCall P w0 call) (hD : DrawSim P w0 call) {f : Nat} {fn : Func} {p : PFn} (hf : P.funcs[f]? = some fn) (hp : cfn P fn = some p) {fuel : Nat} {args : List AVal} {xs : Array Value} (hv : runF call fuel p args σ = some (v, σ'))
    (hW : WR w0 m σ w) (hx : VRs m args xs.toList) : (callFunc f xs).run P w = .ok (.enter f xs) w ∧ Calls P f xs w (DoneE w0 m σ v σ') := by
  unfold cfn at hp
  simp only [bindSome] at hp
  obtain ⟨body, hb, hp⟩ := hp
  split at hp
  · cases hp
  · rename_i hname
    simp only [bindSome] at hp
    obtain ⟨slots, hs, pc, hpc, res, hres, hp⟩ := hp
    cases hp
    simp only [runF, runC] at hv
    have hT0 : TR m Ts.empty ((#[] : Array Value) ++ Array.replicate fn.ntmps Go.undef) := by
      intro t s hs
      rw [Tm.at_eq, Ts.get_empty]
      have : ((#[] : Array Value) ++ Array.replicate fn.ntmps Go.undef).getD t Go.undef = Go.undef := by
        by_cases h : t < fn.ntmps <;> simp [Array.getD_eq_getD_getElem?, h]
      rw [this]; exact .undef
    obtain ⟨hle, T', hT', hk⟩ := enter_ok args xs.toList fn.ntmps 0 slots _ #[] hs rfl hx hT0 hv
    obtain ⟨⟨e, T2, σ2⟩, h1, h2⟩ := andThen_eq.1 hk
    constructor
    · have hname : ¬ fn.name = "runtime.NumGoroutine" := fun h => hname (by rw [h]; decide)
      simp [callFunc, hf, hname, hb]
    · refine calls_of_wp hf hb (code_step hC hD fuel body pc hpc T' σ m _ w e T2 σ2 _ h1 ⟨hW, by simpa using hT', by simp at hle ⊢; omega, rfl⟩ ?_)
      intro a' w' m' hE hR
      have fin : leave res T2 σ2 = some (v, σ') → a'.defers = [] ∧ ∃ x, (results fn a'.tmps).run P w' = .ok x w' ∧ DoneE w0 m σ v σ' (.returned x) w' := by
        intro hl
        obtain ⟨x, g1, g2, rfl⟩ := leave_run hres hR.wr hR.tr hl
        exact ⟨hR.defers, x, g1, m', g2, hE, hR.wr⟩
      cases e with
      | normal => exact fin h2
      | ret => exact fin h2
      | exit id => cases h2
/-- What is known of a function otherwise. -/
def HookOk (P : Program) (f : Nat) (p : PFn) : Prop := ∀ (w0 : World) (call : Caller) (fuel : Nat) (args : List AVal) (σ : S) (v : AVal) (σ' : S) (w : World) (m : Mp) (xs : Array Value),
  runF call fuel p args σ = some (v, σ') → WR w0 m σ w → VRs m args xs.toList → (callFunc f xs).run P w = .ok (.enter f xs) w ∧ Calls P f xs w (DoneE w0 m σ v σ')
/-- THE EVALUATOR TELLS WHAT CALLS COME TO. -/
theorem sim {tab : Nat → Option PFn} (hT : ∀ f p, tab f = some p → tabOf P f = some p ∨ HookOk P f p) (hD : ∀ n, SimCall P w0 (evalF tab n) → DrawSim P w0 (evalF tab n)) : ∀ n, SimCall P w0 (evalF tab n) := by
  intro n
  induction n with
  | zero => intro f args σ v σ' w m xs h; cases h
  | succ n ih =>
    intro f args σ v σ' w m xs h hW hx
    rw [evalF_succ] at h
    obtain ⟨p, hp, h⟩ := andThen_eq.1 h
    rcases hT f p hp with this | hk
    · unfold tabOf at this
      cases hf : P.funcs[f]? with
      | none => rw [hf] at this; cases this
      | some fn => rw [hf] at this; exact fn_step ih (hD n ih) hf this h hW hx
    · exact hk w0 _ _ _ _ _ _ _ _ _ h hW hx
end
end Go.Am
