/-
  strconv.Atoi and strconv.Itoa by the shelf's contracts, ShellRuns by the kernel's run: the table of the functions that the law reaches. Conditions: none.
-/
import Derived.Test.YtdolmkdbpnlegaaGreatDoorJ1
import Derived.Test.YtdolmkdbpnlegaaGreatDoorJS
import Derived.Test.YtdolmkdbpnlegaaGreatDoorFT
import Derived.Test.YtdolmkdbpnlegaaGreatDoorS2
import Derived.Shelf.Strconv.AtoiAll
import Derived.Shelf.Strconv.Itoa3
import Derived.Lib.AppendIntMem
namespace Go.Proofs.YtdolmkdbpnlegaaGreatDoor
open Go.Am
open Go.RowKit (Below)
theorem enters31 : ∀ args w, (callFunc 31 args).run Tryz.prog w = .ok (.enter 31 args) w := enters_of Tryz.func31 (by kernel_rfl) rfl
theorem enters32 : ∀ args w, (callFunc 32 args).run Tryz.prog w = .ok (.enter 32 args) w := enters_of Tryz.func32 (by kernel_rfl) rfl
theorem bytes_below {w w' : World} {t0 : TypeId} (h : w' = w ∨ ∃ t, w' = Lib.bytesWorld w t0 t) : Below w.heap.size w w' := by
  rcases h with rfl | ⟨t, rfl⟩
  · exact Below.refl _ _
  · exact Lib.bytesWorld_below _ _ _
theorem cell_gl {w : World} (h : GL w) {g : Nat} (hg : gdata g = some [.top]) : ∃ ev, w.cell? ⟨g, 0, none⟩ = some ev ∧ (ev = .nilIface ∨ ∃ te pe, ev = .iface te pe) := by
  obtain ⟨cells, ty, frz, h1, h2, h3⟩ := h g _ hg
  obtain ⟨x, h4, h5⟩ := h3 0 .top rfl
  obtain ⟨t, z, rfl⟩ := h5.vr.top
  exact ⟨_, by unfold World.cell?; rw [h1]; exact h4, .inr ⟨t, z, rfl⟩⟩
theorem pows_eq : gdata 5 = some (Lib.pow10Tab.map fun z => AVal.int .u64 z) := by kernel_rfl
theorem tab_gl {w : World} (h : GL w) : Lib.TabIs Tryz.prog w "internal/strconv.uint64pow10" .u64 Lib.pow10Tab := by
  obtain ⟨cells, ty, frz, h1, h2, h3⟩ := h 5 _ pows_eq
  have hc : cells = (Lib.pow10Tab.map fun z => Value.int .u64 z).toArray := by
    apply Array.ext'
    refine List.ext_getElem? fun i => ?_
    cases hi : Lib.pow10Tab[i]? with
    | none =>
      have hn : Lib.pow10Tab.length ≤ i := List.getElem?_eq_none_iff.1 hi
      rw [List.getElem?_map, hi, Array.getElem?_toList, Array.getElem?_eq_none (by rw [h2, List.length_map]; exact hn)]
      rfl
    | some z =>
      obtain ⟨x, h4, h5⟩ := h3 i (.int .u64 z) (by rw [List.getElem?_map, hi]; rfl)
      rw [List.getElem?_map, hi, Array.getElem?_toList, h4, h5.vr.int]
      rfl
  have hg : Tryz.prog.globalNamed "internal/strconv.uint64pow10" = some 5 := by as_aux_lemma => kernel_rfl
  unfold Lib.TabIs World.var?
  rw [hg, Option.bind_some, h1]
  exact congrArg some hc
theorem atoi_ok (s : ByteArray) (v : Int) (w : World) (hs : s.size ≤ 281474976710656) (h : Lib.atoiAll s.data.toList = .ok v) : Calls Tryz.prog 31 #[.string s] w fun e w' => e = .returned (.tuple #[.int .i64 v, .nilIface]) ∧ Below w.heap.size w w' := by
  have k := Any.strconv_Atoi_ok Tryz.lays172 s (by omega) v h w
  exact k.mono fun e w' g => ⟨g.1, bytes_below g.2⟩
theorem atoi_bad (s : ByteArray) (w : World) (hG : GL w) (hs : s.size ≤ 281474976710656) (hb : isBad (Lib.atoiAll s.data.toList) = true) : Calls Tryz.prog 31 #[.string s] w fun e w' => (∃ t x, e = .returned (.tuple #[.int .i64 0, .iface t x])) ∧ Below w.heap.size w w' := by
  obtain ⟨ev, hv, hev⟩ := cell_gl hG (g := 1) rfl
  rcases h : Lib.atoiAll s.data.toList with n | _ | _
  · rw [h] at hb; cases hb
  · have k := Any.strconv_Atoi_syntax Tryz.lays172 s hs h ev w hv hev
    exact k.mono fun e w' ⟨N, g1, _, _, g2⟩ => ⟨⟨_, _, g1⟩, g2⟩
  · rw [h] at hb; cases hb
theorem atoi_range (s : ByteArray) (w : World) (hG : GL w) (hs : s.size ≤ 281474976710656) (h : Lib.atoiAll s.data.toList = .range) : Calls Tryz.prog 31 #[.string s] w fun e w' => (∃ t x, e = .returned (.tuple #[.int .i64 (Lib.atoiSat s.data.toList), .iface t x])) ∧ Below w.heap.size w w' := by
  obtain ⟨ev, hv, hev⟩ := cell_gl hG (g := 2) rfl
  have k := Any.strconv_Atoi_range Tryz.lays172 s hs h ev w hv hev
  exact k.mono fun e w' ⟨N, g1, _, _, g2⟩ => ⟨⟨_, _, g1⟩, g2⟩
theorem itoa_ok (n : Int) (w : World) (hG : GL w) (h0 : -9223372036854775808 ≤ n) (h1 : n ≤ 9223372036854775807) : Calls Tryz.prog 32 #[.int .i64 n] w fun e w' => e = .returned (.string ⟨(Lib.itoa n).toArray⟩) ∧ Below w.heap.size w w' := by
  have k := Any.strconv_Itoa Tryz.lays171 n h0 h1 w (tab_gl hG)
  exact k.mono fun e w' ⟨g1, q, os, g2⟩ => ⟨g1, by subst g2; exact Lib.below_grow _ _ (Nat.le_refl _) _ _⟩
noncomputable def tabH (f : Nat) : Option PFn := @Bool.rec (fun _ => Option PFn) (@Bool.rec (fun _ => Option PFn) (@Bool.rec (fun _ => Option PFn) (tabOf Tryz.prog f) (some (.host 1)) (Nat.beq f 32)) (some (.host 0)) (Nat.beq f 31)) (some trueFn) (Nat.beq f 8)
theorem tabH_ok (f : Nat) (p : PFn) (h : tabH f = some p) : tabOf Tryz.prog f = some p ∨ HookOk Tryz.prog f p := by
  unfold tabH at h
  cases h8 : Nat.beq f 8 with
  | true =>
    rw [h8] at h
    have := Nat.eq_of_beq_eq_true h8
    subst this
    cases h
    exact .inr (hook_true runs)
  | false =>
    rw [h8] at h
    cases h31 : Nat.beq f 31 with
    | true =>
      rw [h31] at h
      have := Nat.eq_of_beq_eq_true h31
      subst this
      cases h
      exact .inr (hook_atoi enters31 atoi_ok atoi_bad atoi_range)
    | false =>
      rw [h31] at h
      cases h32 : Nat.beq f 32 with
      | true =>
        rw [h32] at h
        have := Nat.eq_of_beq_eq_true h32
        subst this
        cases h
        exact .inr (hook_itoa enters32 itoa_ok)
      | false =>
        rw [h32] at h
        exact .inl h
theorem tab8 : tabH 8 = some trueFn := rfl
theorem tabs : Tab tabH := ⟨by kernel_rfl, by kernel_rfl, by kernel_rfl, by kernel_rfl, by kernel_rfl, by kernel_rfl, by kernel_rfl, by kernel_rfl, by kernel_rfl, by kernel_rfl, by kernel_rfl, by kernel_rfl, by kernel_rfl, by kernel_rfl, by kernel_rfl, by kernel_rfl, by kernel_rfl, by kernel_rfl, by kernel_rfl, by kernel_rfl, by kernel_rfl, by kernel_rfl, by kernel_rfl, by kernel_rfl, by kernel_rfl, by kernel_rfl, by kernel_rfl, by kernel_rfl, by kernel_rfl, by kernel_rfl, by kernel_rfl, by kernel_rfl, by kernel_rfl, by kernel_rfl, by kernel_rfl, by kernel_rfl⟩
theorem hs : Hs tabH := ⟨tabs, rfl, rfl⟩
theorem runs8 : ∀ (σ : S) (Q : AVal → S → Prop), Q (.bool true) σ → WF tabH 8 [] σ Q := fun σ Q hQ =>
  ⟨.bool true, σ, hQ, 1, fun m hm => by
    obtain ⟨m, rfl⟩ : ∃ k, m = k + 1 := ⟨m - 1, by omega⟩
    rw [evalF_succ, tab8]
    exact trueFn_run _ _ _⟩
end Go.Proofs.YtdolmkdbpnlegaaGreatDoor
