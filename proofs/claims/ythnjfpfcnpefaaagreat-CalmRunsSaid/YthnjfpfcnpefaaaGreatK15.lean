/-
  Operations, one at a time, in the walk. Conditions: none.
-/
import Derived.Test.YthnjfpfcnpefaaaGreatK14
import Derived.Calls
namespace Go.Am
open Go.RowKit (Below)
/-- What has come of memory: more is known, nothing else of what was. -/
structure Ext (m m' : Mp) (σ σ' : S) : Prop where
  le : m.le m'
  old : ∀ b : Pos, b.nat < σ.next.nat → m' b = m b
  next : σ.next.nat ≤ σ'.next.nat
theorem Ext.refl (m : Mp) (σ : S) : Ext m m σ σ := ⟨m.le_refl, fun _ _ => rfl, Nat.le_refl _⟩
theorem Ext.trans {m m' m2 : Mp} {σ σ' σ2 : S} (h : Ext m m' σ σ') (k : Ext m' m2 σ' σ2) : Ext m m2 σ σ2 :=
  ⟨Mp.le_trans h.le k.le, fun b hb => (k.old b (Nat.lt_of_lt_of_le hb h.next)).trans (h.old b hb), Nat.le_trans h.next k.next⟩
def Done (w0 : World) (m : Mp) (σ : S) (v : AVal) (σ' : S) (x : Value) (w' : World) : Prop := ∃ m', VR m' v x ∧ Ext m m' σ σ' ∧ WR w0 m' σ' w'
def DoneE (w0 : World) (m : Mp) (σ : S) (v : AVal) (σ' : S) : Ending → World → Prop
  | .returned x, w' => Done w0 m σ v σ' x w'
  | _, _ => False
theorem ERuns.done {w0 w : World} {m : Mp} {σ σ' : S} {r : Result Value} {v : AVal} (h : ERuns w0 w m σ r v σ') : ∃ x w', r = .ok x w' ∧ Done w0 m σ v σ' x w' := by
  obtain ⟨x, w', m', h1, h2, h3, h4, h5, h6⟩ := h
  exact ⟨x, w', h1, m', h2, ⟨h3, h4, h6⟩, h5⟩
/-- Calls are as the evaluator has them. -/
def SimCall (P : Program) (w0 : World) (call : Caller) : Prop :=
  ∀ f args σ v σ' w m (xs : Array Value), call f args σ = some (v, σ') → WR w0 m σ w → VRs m args xs.toList →
    (callFunc f xs).run P w = .ok (.enter f xs) w ∧ Calls P f xs w (DoneE w0 m σ v σ')
section
variable {P : Program} {w0 w : World} {m : Mp} {σ σ' : S} {T : Tm} {a : Act} {v : AVal} {call : Caller} {next : Act → World → Prop} {Q : Exit → Act → World → Prop}
theorem q_step {o : Oper} {q : QOp} (h : cop P o.op = some (.q q)) (hW : WR w0 m σ w) (hT : TR m T a.tmps) (hv : evalQ q T σ = some v) (K : ∀ x, VR m v x → next (a.put o.dst x) w) : o.wp P a w next Q := by
  obtain ⟨dst, op, type, pos, after, guard⟩ := o
  obtain ⟨x, h1, h2⟩ := simQ (dst := dst) (type := type) (pos := pos) (after := after) (guard := guard) h hW hT hv
  unfold Oper.wp
  rw [h1]
  exact K x h2
theorem a_step {o : Oper} {q : AOp} (h : cop P o.op = some (.a q)) (hW : WR w0 m σ w) (hT : TR m T a.tmps) {blk : Blk} {mk : Pos → AVal} (hv : evalA q T = some (blk, mk)) {p nx : Pos} (hp : m p = none) (hpn : p.nat < nx.nat) (hnx : σ.next.nat ≤ nx.nat)
    (K : ∀ x w' mi, WR w0 (upd m p mi) (σ.layAt p (blk.named p) nx) w' → VR (upd m p mi) (mk p) x → next (a.put o.dst x) w') : o.wp P a w next Q := by
  obtain ⟨dst, op, type, pos, after, guard⟩ := o
  obtain ⟨x, w', mi, h1, h2, h3⟩ := simA (dst := dst) (type := type) (pos := pos) (after := after) (guard := guard) h hW hT hv p nx hp hpn hnx
  unfold Oper.wp
  rw [h1]
  exact K x w' mi h2 h3
theorem upon_run {o : Oper} {s : Sem Value} (hs : execOp a.eval o = (do pure (.value (← s)))) (h : ERuns w0 w m σ (s.run P w) v σ') (K : ∀ x w', Done w0 m σ v σ' x w' → next (a.put o.dst x) w') : o.wp P a w next Q := by
  obtain ⟨x, w', h1, h2⟩ := h.done
  unfold Oper.wp
  rw [hs]
  simp only [Sem.run_bind, h1, Result.andThen_ok, Sem.run_pure]
  exact K x w' h2
theorem upon_unit {o : Oper} {s : Sem Unit} (hs : execOp a.eval o = (do s; pure .skip)) (h : ∃ w', s.run P w = .ok () w' ∧ v = .undef ∧ WR w0 m σ' w' ∧ σ'.next = σ.next) (K : ∀ x w', Done w0 m σ v σ' x w' → next (a.put o.dst x) w') : o.wp P a w next Q := by
  obtain ⟨w', h1, rfl, h3, h4⟩ := h
  unfold Oper.wp
  rw [hs]
  simp only [Sem.run_bind, h1, Result.andThen_ok, Sem.run_pure]
  exact K _ _ ⟨m, .undef, ⟨m.le_refl, fun _ _ => rfl, by rw [h4]; exact Nat.le_refl _⟩, h3⟩
theorem VRs.append {a b : List AVal} {x y : List Value} (h : VRs m a x) (k : VRs m b y) : VRs m (a ++ b) (x ++ y) := by
  induction h with
  | nil => exact k
  | cons v x l r h hs ih => exact .cons _ _ _ _ h ih
theorem SRs.vrs {a : List AVal} {x : List Value} (h : SRs m a x) : VRs m a x := by
  have : ∀ (a : List AVal) (x : List Value), SRs m a x → VRs m a x := by
    intro a
    induction a with
    | nil => intro x h; cases h; exact .nil
    | cons v l ih => intro x h; cases h with | cons _ y _ r h hs => exact .cons _ _ _ _ h.vr (ih _ hs)
  exact this a x h
theorem call_step (hC : SimCall P w0 call) {f : Nat} {args : List AVal} (hv : call f args σ = some (v, σ')) (hW : WR w0 m σ w) {o : Oper} {xs : Array Value} (hx : VRs m args xs.toList)
    (hs : execOp a.eval o = callFunc f xs) (K : ∀ x w', Done w0 m σ v σ' x w' → next (a.put o.dst x) w') : o.wp P a w next Q := by
  obtain ⟨c1, c2⟩ := hC f args σ v σ' w m xs hv hW hx
  unfold Oper.wp
  rw [hs, c1]
  refine Calls.mono c2 ?_
  intro e w' he
  cases e with
  | returned x => exact K x w' he
  | panicked c => exact he.elim
  | outgrown => exact he.elim
/-- AN OPERATION THAT CHANGES MEMORY. -/
theorem e_step (hC : SimCall P w0 call) {o : Oper} {q : EOp} (h : cop P o.op = some (.e q)) (hW : WR w0 m σ w) (hT : TR m T a.tmps) (hv : evalE q call T σ = some (v, σ')) (K : ∀ x w', Done w0 m σ v σ' x w' → next (a.put o.dst x) w') : o.wp P a w next Q := by
  obtain ⟨dst, o, type, pos, after, guard⟩ := o
  simp only at h
  cases o with
  | store t x y =>
    simp [cop, Option.bind_eq_some_iff] at h
    obtain ⟨n, hn, x', hx, y', hy, rfl⟩ := h
    simp only [evalE, eStore] at hv
    rw [headK_eq] at hv
    obtain ⟨cs, hcs, hv⟩ := andThen_eq.1 hv
    obtain ⟨w', h1, rfl, h3, h4⟩ := store_sim (P := P) hn hW (copd_ok hT hx) (copd_ok hT hy) hcs hv
    have : (execOp a.eval ⟨dst, .store t x y, type, pos, after, guard⟩).run P w = .ok .skip w' := by
      simp only [execOp, Sem.run_bind, h1, Result.andThen_ok, Sem.run_pure]
    unfold Oper.wp
    rw [this]
    exact K _ _ ⟨m, .undef, ⟨m.le_refl, fun _ _ => rfl, by rw [h4]; exact Nat.le_refl _⟩, h3⟩
  | load t x =>
    simp only [cop] at h
    split at h
    · simp [Option.bind_eq_some_iff] at h
    · split at h
      · simp [Option.bind_eq_some_iff] at h
      · cases h
  | binOp op t x y yt =>
    simp only [cop] at h
    split at h
    · split at h
      · simp [Option.bind_eq_some_iff] at h
      · cases h
    · split at h
      · simp [Option.bind_eq_some_iff] at h
      · cases h
    · cases h
    · split at h <;> first | (cases h; done) | (simp [Option.bind_eq_some_iff] at h; done)
  | build t ps =>
    simp only [cop, bindSome] at h
    obtain ⟨z, hz, h⟩ := h
    split at h
    · split at h
      · simp [Option.bind_eq_some_iff] at h
      · cases h
    · simp [Option.bind_eq_some_iff] at h
    · cases h
  | slice t x lo hi mx =>
    simp only [cop] at h
    split at h
    · split at h
      · simp [Option.bind_eq_some_iff] at h
      · cases h
    · simp only [bindSome] at h
      obtain ⟨n, hn, h⟩ := h
      split at h
      · cases h
      · simp [Option.bind_eq_some_iff] at h
    · simp only [bindSome] at h
      obtain ⟨n, hn, h⟩ := h
      split at h
      · cases h
      · simp [Option.bind_eq_some_iff] at h
    · split at h
      · simp only [bindSome] at h
        obtain ⟨n, hn, h⟩ := h
        split at h
        · cases h
        · simp [Option.bind_eq_some_iff] at h
      · cases h
    · cases h
  | fieldAddr t x f =>
    simp only [cop] at h
    split at h
    · simp only [bindSome] at h
      obtain ⟨fd, hfd, n, hn, h⟩ := h
      split at h
      · cases h
      · simp [Option.bind_eq_some_iff] at h
    · cases h
  | field t x f =>
    simp only [cop] at h
    split at h
    · simp only [bindSome] at h
      obtain ⟨fd, hfd, n, hn, h⟩ := h
      split at h
      · simp [Option.bind_eq_some_iff] at h
      · cases h
    · cases h
  | indexAddr t x i =>
    simp only [cop] at h
    split at h
    · simp [Option.bind_eq_some_iff] at h
    · simp [Option.bind_eq_some_iff] at h
    · cases h
  | index t x i =>
    simp only [cop] at h
    split at h
    · split at h
      · simp [Option.bind_eq_some_iff] at h
      · cases h
    · simp [Option.bind_eq_some_iff] at h
    · cases h
  | makeFunc fn first caps =>
    cases fn <;> simp only [cop] at h <;> (try (cases h; done))
    split at h
    · simp [Option.bind_eq_some_iff] at h
    · cases h
  | buildSlice t n ps =>
    simp only [cop] at h
    split at h
    · simp only [bindSome] at h
      obtain ⟨s, hs, z, hz, h⟩ := h
      split at h
      · simp [Option.bind_eq_some_iff] at h
      · cases h
    · cases h
  | makeSlice t l c =>
    simp only [cop] at h
    split at h
    · simp only [bindSome] at h
      obtain ⟨i, hi, z, hz, h⟩ := h
      split at h
      · simp [Option.bind_eq_some_iff] at h
      · cases h
    · cases h
  | convert s d x =>
    simp only [cop] at h
    split at h
    · simp [Option.bind_eq_some_iff] at h
    · simp [Option.bind_eq_some_iff] at h
    · split at h
      · simp [Option.bind_eq_some_iff] at h
      · cases h
    · split at h
      · simp [Option.bind_eq_some_iff] at h
      · cases h
    · cases h
  | call c =>
    obtain ⟨callee, args, argTypes⟩ := c
    simp only [cop] at h
    split at h
    · rename_i f
      simp [Option.bind_eq_some_iff] at h
      obtain ⟨l, hl, rfl⟩ := h
      simp only [evalE, eCall] at hv
      exact call_step hC hv hW (xs := args.map a.eval) (by simpa using copds_ok hT hl) (by simp [execOp, resolve, Deferred.ofValue, invoke, Act.eval]) K
    · rename_i t
      simp [Option.bind_eq_some_iff] at h
      obtain ⟨s, hs, l, hl, rfl⟩ := h
      simp only [evalE, eCallV, Opd.ev_tmp] at hv
      have hx := hT t s hs
      unfold callVal at hv
      split at hv
      · rename_i f caps hf
        rw [hf] at hx
        obtain ⟨cs, hcs, hcr⟩ := hx.func
        refine call_step hC hv hW (xs := args.map a.eval ++ cs) ?_ ?_ K
        · simpa using (copds_ok hT hl).append hcr.vrs
        · simp [execOp, resolve, Deferred.ofValue, invoke, Act.eval, hcs]
      · cases hv
    · split at h
      · split at h <;> first | (cases h; done) | (simp [Option.bind_eq_some_iff] at h; done) | (split at h <;> first | (cases h; done) | (simp [Option.bind_eq_some_iff] at h; done))
      · cases h
    · split at h
      · split at h
        · simp [Option.bind_eq_some_iff] at h
        · cases h
      · cases h
    · split at h
      · simp [Option.bind_eq_some_iff] at h
      · cases h
    · split at h
      · simp [Option.bind_eq_some_iff] at h
      · cases h
    · split at h
      · rename_i t u x y ht hargs
        split at h
        · rename_i e he
          simp only [bindSome] at h
          obtain ⟨i, hi, z, hz, h⟩ := h
          have hat : argTypes = #[t, u] := by apply Array.ext'; simpa using ht
          have hag : args = #[x, y] := by apply Array.ext'; simpa using hargs
          subst hat hag
          have fin : ∀ (_ : (∃ e', P.underlying u = some (.slice e')) ∨ P.underlying u = some .string)
              (_ : (if (decide (0 < i.size) && decide (0 < i.bytes) && decide (i.bytes ≤ 1048576) && decide (z.length = i.size)) = true then (do pure (KOp.e (.append i.size i.bytes (← copd x) (← copd y))) : Option KOp) else none) = some (.e q)),
              Oper.wp P ⟨dst, .call ⟨.builtin .append, #[x, y], #[t, u]⟩, type, pos, after, guard⟩ a w next Q := by
            intro hu h
            split at h
            · rename_i hc
              simp [Option.bind_eq_some_iff] at h
              obtain ⟨x', hx, y', hy, rfl⟩ := h
              simp only [Bool.and_eq_true, decide_eq_true_eq] at hc
              simp only [evalE, eAppend] at hv
              exact upon_run (s := Builtin.append_ #[t, u] type #[a.eval x, a.eval y]) (by simp [execOp, resolve, invoke, builtin]) (append_sim he hu hi hz ⟨hc.1.1.1, hc.1.1.2, hc.2⟩ hW (copd_ok hT hx) (copd_ok hT hy) hv) K
            · cases h
          split at h
          · rename_i e' hu; exact fin (.inl ⟨e', hu⟩) h
          · rename_i hu; exact fin (.inr hu) h
          · cases h
        · cases h
      · cases h
    · split at h
      · rename_i t u x y ht hargs
        simp only [bindSome] at h
        obtain ⟨⟨g, cs, e⟩, hm, h⟩ := h
        simp at h
        obtain ⟨x', hx, k', hk, rfl⟩ := h
        obtain ⟨kt, hu, hf, rfl⟩ := cmap_eq hm
        have hat : argTypes = #[t, u] := by apply Array.ext'; simpa using ht
        have hag : args = #[x, y] := by apply Array.ext'; simpa using hargs
        subst hat hag
        simp only [evalE, eMdel] at hv
        exact upon_run (s := Builtin.delete_ #[t, u] type #[a.eval x, a.eval y]) (by simp [execOp, resolve, invoke, builtin]) (delM_sim hu hf hW (copd_ok hT hx) (copd_ok hT hk) hv) K
      · cases h
    · split at h
      · rename_i t x ht hargs
        split at h
        · rename_i e he
          simp [Option.bind_eq_some_iff] at h
          obtain ⟨z, hz, x', hx, rfl⟩ := h
          have hat : argTypes = #[t] := by apply Array.ext'; simpa using ht
          have hag : args = #[x] := by apply Array.ext'; simpa using hargs
          subst hat hag
          simp only [evalE, eClr] at hv
          exact upon_run (s := Builtin.clear_ #[t] type #[a.eval x]) (by simp [execOp, resolve, invoke, builtin]) (clr_sim he hz hW (copd_ok hT hx) hv) K
        · cases h
      · cases h
    · split at h
      · rename_i t u x y ht hargs
        split at h
        · rename_i e he
          simp [Option.bind_eq_some_iff] at h
          obtain ⟨n, hn, x', hx, y', hy, rfl⟩ := h
          have hat : argTypes = #[t, u] := by apply Array.ext'; simpa using ht
          have hag : args = #[x, y] := by apply Array.ext'; simpa using hargs
          subst hat hag
          simp only [evalE, eCopy] at hv
          exact upon_run (s := Builtin.copy_ #[t, u] type #[a.eval x, a.eval y]) (by simp [execOp, resolve, invoke, builtin]) (copy_sim he hn hW (copd_ok hT hx) (copd_ok hT hy) hv) K
        · cases h
      · cases h
    · cases h
  | makeMap t r =>
    simp only [cop] at h
    split at h
    · rename_i k e hu
      simp [Option.bind_eq_some_iff] at h
      obtain ⟨r', hr, rfl⟩ := h
      simp only [evalE, eMmake] at hv
      obtain ⟨h1, hv⟩ := test_eq.1 hv
      refine upon_run (s := Instr.makeMap t (r.map a.eval)) (by simp [execOp]) (newMap_sim hu hW ?_ hv) K
      cases r with
      | none => exact .inl rfl
      | some x =>
        unfold copt at hr
        obtain ⟨y, hy, rfl⟩ := Option.map_eq_some_iff.1 hr
        have hx := copd_ok hT hy
        unfold evo isMapR at h1
        simp only at h1
        split at h1
        · rename_i q n he
          rw [he] at hx
          exact .inr ⟨q, n, by simp [hx.int]⟩
        · cases h1
    · cases h
  | mapUpdate t x k u =>
    simp only [cop, bindSome] at h
    obtain ⟨⟨g, cs, e⟩, hm, h⟩ := h
    simp at h
    obtain ⟨x', hx, k', hk, u', hu', rfl⟩ := h
    obtain ⟨kt, hu, hf, rfl⟩ := cmap_eq hm
    simp only [evalE, eMset] at hv
    exact upon_unit (s := Instr.mapUpdate t (a.eval x) (a.eval k) (a.eval u)) (by simp [execOp]) (setM_sim hu hf hW (copd_ok hT hx) (copd_ok hT hk) (copd_ok hT hu') hv) K
  | mapEntry t x k =>
    simp only [cop, bindSome] at h
    obtain ⟨⟨g, cs, e⟩, hm, h⟩ := h
    simp at h
    obtain ⟨z, hz, x', hx, k', hk, rfl⟩ := h
    obtain ⟨kt, hu, hf, rfl⟩ := cmap_eq hm
    simp only [evalE, eMent] at hv
    exact upon_run (s := Instr.mapEntry t (a.eval x) (a.eval k)) (by simp [execOp]) (entM_sim hu hf hz hW (copd_ok hT hx) (copd_ok hT hk) hv) K
  | entryStore t x s u =>
    simp [cop, Option.bind_eq_some_iff] at h
    obtain ⟨x', hx, s', hs, u', hu', rfl⟩ := h
    simp only [evalE, eMstamp] at hv
    exact upon_unit (s := Instr.entryStore t (a.eval x) (a.eval s) (a.eval u)) (by simp [execOp]) (stampM_sim hW (copd_ok hT hx) (copd_ok hT hs) (copd_ok hT hu') hv) K
  | range t x =>
    simp only [cop] at h
    split at h
    · rename_i k e hu
      simp [Option.bind_eq_some_iff] at h
      obtain ⟨x', hx, rfl⟩ := h
      simp only [evalE, eMrange] at hv
      exact upon_run (s := Instr.range t (a.eval x)) (by simp [execOp]) (rangeM_sim hu hW (copd_ok hT hx) hv) K
    · cases h
  | next x b =>
    cases b with
    | true => simp [cop] at h
    | false =>
      simp [cop, Option.bind_eq_some_iff] at h
      obtain ⟨x', hx, rfl⟩ := h
      simp only [evalE, eMnext] at hv
      exact upon_run (s := Instr.next (a.eval x) false type) (by simp [execOp]) (nextM_sim hW (copd_ok hT hx) hv) K
  | entry x => simp [cop, Option.bind_eq_some_iff] at h
  | lookup t x k ok =>
    simp only [cop, bindSome] at h
    obtain ⟨⟨g, cs, e⟩, _, h⟩ := h
    simp at h
  | _ => simp [cop, Option.bind_eq_some_iff] at h
end
end Go.Am
