/-
  Calls that are known otherwise. Conditions: none.
-/
import Derived.Test.YtdolmkdbpnlegaaGreatDoorK31
namespace Go.Am
open Go.RowKit (Below)
theorem WR.later {w0 w w' : World} {m : Mp} {σ : S} (h : WR w0 m σ w) (hb : Below w.heap.size w w') : WR w0 m σ w' := by
  have hold : ∀ {c : Nat} {o : Obj}, w.heap[c]? = some o → w'.heap[c]? = some o := fun {c o} hc => by
    have : c < w.heap.size := (Array.getElem?_eq_some_iff.1 hc).1
    rw [hb.block c this]; exact hc
  refine ⟨h.below.trans (hb.mono h.below.size), fun b mi hm => ⟨(h.dom b mi hm).1, Nat.lt_of_lt_of_le (h.dom b mi hm).2 hb.size⟩, fun b blk hB => ?_, h.alias, h.fam, h.tidy, fun b mb hB => ?_, h.gl, h.mpi⟩
  · obtain ⟨mi, h1, ⟨cells, ty, frz, g1, g2⟩⟩ := h.blk b blk hB
    exact ⟨mi, h1, ⟨cells, ty, frz, hold g1, g2⟩⟩
  · obtain ⟨mi, h1, h2, o, g1, g2⟩ := h.mp b mb hB
    exact ⟨mi, h1, h2, o, hold g1, g2⟩
theorem GL.later {w0 w : World} (h : GL w0) (hb : Below w0.heap.size w0 w) : GL w := by
  intro g cs hg
  obtain ⟨cells, ty, frz, h1, h2⟩ := h g cs hg
  have hlt : g < w0.heap.size := (Array.getElem?_eq_some_iff.1 h1).1
  exact ⟨cells, ty, frz, (hb.block g hlt).trans h1, h2⟩
noncomputable def trueFn : PFn := .code [] (.ops [⟨some (sn 0), none, .q (.mov (.val (.bool true)))⟩]) [.tmp (sn 0)]
theorem trueFn_run (call : Caller) (fuel : Nat) (σ : S) : runF call fuel trueFn [] σ = some (.bool true, σ) := by kernel_rfl
section
variable {P : Program}
def TrueCall (P : Program) (f : Nat) : Prop := ∀ w : World, GL w → (callFunc f #[]).run P w = .ok (.enter f #[]) w ∧ Calls P f #[] w fun | .returned x, w' => x = .bool true ∧ Below w.heap.size w w' | _, _ => False
theorem VR.tup2 {m : Mp} {a b : AVal} {x y : Value} (h : SR m a x) (k : SR m b y) : VR m (.tup [a, b]) (.tuple #[x, y]) := .tup _ _ (.cons _ _ _ _ (.one _ _ h) (.cons _ _ _ _ (.one _ _ k) .nil))
theorem hook_true {f : Nat} (h : TrueCall P f) : HookOk P f trueFn := by
  intro w0 call fuel args σ v σ' w m xs hv hW hx
  cases args with
  | cons a l => exact absurd hv (by show ¬ none = _; exact fun e => by cases e)
  | nil =>
    rw [trueFn_run] at hv
    cases hv
    have hxs : xs = #[] := by
      have := hx.length
      simpa using this
    subst hxs
    obtain ⟨h1, h2⟩ := h w (hW.gl.later hW.below)
    refine ⟨h1, Calls.mono h2 fun e w' he => ?_⟩
    cases e with
    | returned x =>
      obtain ⟨g1, g2⟩ := he
      subst g1
      exact ⟨m, (SR.bool true).vr, ⟨Mp.le_refl m, fun _ _ => rfl, Nat.le_refl _⟩, hW.later g2⟩
    | panicked c => exact he.elim
    | outgrown => exact he.elim
theorem closed_true {hk : List (Nat × PFn)} {need n f : Nat} (hm : P.follows .mixedOrders = true) (hh : ∀ f p, (f, p) ∈ hk → HookOk P f p) (h : layTab P hk need (fun t => isTrue (evalF (tabT t) n f [] S.start)) = true) : TrueCall P f := by
  intro w hg
  obtain ⟨t, ht, h⟩ := layTab_ok hh h
  obtain ⟨σ', h⟩ := isTrue_iff h
  obtain ⟨h1, h2⟩ := sound (w0 := w) hm ht n f [] S.start (.bool true) σ' w (fun _ => none) #[] h (WR.start w hg) .nil
  refine ⟨h1, Calls.mono h2 fun e w' he => ?_⟩
  cases e with
  | returned x =>
    obtain ⟨m', g1, _, g3⟩ := he
    exact ⟨g1.bool, g3.below⟩
  | panicked c => exact he.elim
  | outgrown => exact he.elim
def isBad : Lib.NumEnd Int → Bool
  | .ok _ => false
  | .range => false
  | _ => true
theorem hook_atoi {f : Nat} (he : ∀ args w, (callFunc f args).run P w = .ok (.enter f args) w)
    (h1 : ∀ (s : ByteArray) (v : Int) (w : World), s.size ≤ 281474976710656 → Lib.atoiAll s.data.toList = .ok v → Calls P f #[.string s] w fun e w' => e = .returned (.tuple #[.int .i64 v, .nilIface]) ∧ Below w.heap.size w w')
    (h2 : ∀ (s : ByteArray) (w : World), GL w → s.size ≤ 281474976710656 → isBad (Lib.atoiAll s.data.toList) = true → Calls P f #[.string s] w fun e w' => (∃ t x, e = .returned (.tuple #[.int .i64 0, .iface t x])) ∧ Below w.heap.size w w')
    (h3 : ∀ (s : ByteArray) (w : World), GL w → s.size ≤ 281474976710656 → Lib.atoiAll s.data.toList = .range → Calls P f #[.string s] w fun e w' => (∃ t x, e = .returned (.tuple #[.int .i64 (Lib.atoiSat s.data.toList), .iface t x])) ∧ Below w.heap.size w w') : HookOk P f (.host 0) := by
  intro w0 call fuel args σ v σ' w m xs hv hW hx
  change hostAtoi args σ = some (v, σ') at hv
  unfold hostAtoi at hv
  split at hv
  · rename_i s
    obtain ⟨hl, hv1⟩ := test_eq.1 hv
    clear hv
    cases hv1
    have hl := Nat.le_of_ble_eq_true hl
    obtain ⟨t, ht, hts⟩ : ∃ t, xs = #[.string t] ∧ t.data.toList.map (·.toNat) = s := by
      cases hxl : xs.toList with
      | nil => rw [hxl] at hx; cases hx
      | cons x l =>
        rw [hxl] at hx
        cases hx with
        | cons _ _ _ _ g1 g2 =>
          cases g2
          obtain ⟨t, rfl, e⟩ := g1.str
          exact ⟨t, by apply Array.ext'; rw [hxl], e⟩
    subst ht
    have hb : bytesN s = t.data.toList := by
      rw [← hts]; unfold bytesN
      rw [List.map_map]
      conv => rhs; rw [← List.map_id t.data.toList]
      refine List.map_congr_left fun a _ => ?_
      simp
    have hsz : t.size ≤ 281474976710656 := by
      have e1 : t.size = t.data.toList.length := Array.length_toList.symm
      have e2 : s.length = t.data.toList.length := by rw [← hts, List.length_map]
      omega
    have hG := hW.gl.later hW.below
    refine ⟨he _ _, ?_⟩
    have fin : ∀ (e : Ending) (w' : World) (x : Value), e = .returned x → Below w.heap.size w w' → VR m (atoiV s) x → DoneE w0 m σ (atoiV s) σ e w' := by
      intro e w' x hx hb hvr
      subst hx
      exact ⟨m, hvr, ⟨Mp.le_refl m, fun _ _ => rfl, Nat.le_refl _⟩, hW.later hb⟩
    rcases ha : Lib.atoiAll t.data.toList with n | _ | _
    · refine Calls.mono (h1 t n w hsz ha) fun e w' ⟨g1, g2⟩ => fin e w' _ g1 g2 ?_
      unfold atoiV; rw [hb, ha]
      exact VR.tup2 (SR.int _ _) SR.niface
    · refine Calls.mono (h2 t w hG hsz (by rw [ha]; rfl)) fun e w' ⟨⟨ty, x, g1⟩, g2⟩ => fin e w' _ g1 g2 ?_
      unfold atoiV; rw [hb, ha]
      exact VR.tup2 (SR.int _ _) (SR.top _ _)
    · refine Calls.mono (h3 t w hG hsz ha) fun e w' ⟨⟨ty, x, g1⟩, g2⟩ => fin e w' _ g1 g2 ?_
      unfold atoiV; rw [hb, ha]
      exact VR.tup2 (SR.int _ _) (SR.top _ _)
  · cases hv
theorem hook_itoa {f : Nat} (he : ∀ args w, (callFunc f args).run P w = .ok (.enter f args) w)
    (h1 : ∀ (n : Int) (w : World), GL w → -9223372036854775808 ≤ n → n ≤ 9223372036854775807 → Calls P f #[.int .i64 n] w fun e w' => e = .returned (.string ⟨(Lib.itoa n).toArray⟩) ∧ Below w.heap.size w w') : HookOk P f (.host 1) := by
  intro w0 call fuel args σ v σ' w m xs hv hW hx
  change hostItoa args σ = some (v, σ') at hv
  unfold hostItoa at hv
  split at hv
  · rename_i n
    obtain ⟨hn, hv1⟩ := test_eq.1 hv
    clear hv
    cases hv1
    obtain ⟨n1, n2⟩ := of_decide_eq_true hn
    have ht : xs = #[.int .i64 n] := by
      cases hxl : xs.toList with
      | nil => rw [hxl] at hx; cases hx
      | cons x l =>
        rw [hxl] at hx
        cases hx with
        | cons _ _ _ _ g1 g2 =>
          cases g2
          have := g1.int
          subst this
          apply Array.ext'; rw [hxl]
    subst ht
    refine ⟨he _ _, Calls.mono (h1 n w (hW.gl.later hW.below) n1 n2) fun e w' ⟨g1, g2⟩ => ?_⟩
    subst g1
    exact ⟨m, (SR.str _ _ (by unfold itoaN; rfl)).vr, ⟨Mp.le_refl m, fun _ _ => rfl, Nat.le_refl _⟩, hW.later g2⟩
  · cases hv
end
end Go.Am
