/-
  Stores, copies and appends. Conditions: none.
-/
import Derived.Test.YtkgjghlklniaeaaK13
import Derived.Laws.Append
namespace Go.Am
open Go.RowKit (Below)
def ERuns (w0 _ : World) (m : Mp) (σ : S) (r : Result Value) (v : AVal) (σ' : S) : Prop :=
  ∃ x w' m', r = .ok x w' ∧ VR m' v x ∧ m.le m' ∧ (∀ b : Pos, b.nat < σ.next.nat → m' b = m b) ∧ WR w0 m' σ' w' ∧ σ.next.nat ≤ σ'.next.nat
section
variable {P : Program} {w0 w : World} {m : Mp} {σ σ' : S} {v : AVal}
theorem append_room {t u ty e : TypeId} {i : TypeInfo} (ht : P.underlying t = some (.slice e)) (hu : (∃ e', P.underlying u = some (.slice e')) ∨ P.underlying u = some .string) (hi : P.info? e = some i)
    {a : Addr} {l c n : Nat} {X : Value} (hn : (Builtin.lenOf X).run P w = .ok n w) (hroom : l + n ≤ c) {xs : Array Value} {w' : World} (hf : (Builtin.firstCells i.size n X).run P w = .ok xs w)
    (hst : (storeCells (a.add (l * i.size)) xs.toList).run P w = .ok () w') :
    (Builtin.append_ #[t, u] ty #[.slice (some a) l c, X]).run P w = .ok (.slice (some a) (l + n) c) w' := by
  rcases hu with ⟨e', hut⟩ | hut <;> simp [Builtin.append_, run_underlying ht, run_underlying hut, sizeOf, typeInfo, hi, hn, hroom, hf, hst]
theorem append_grow {t u ty e : TypeId} {i : TypeInfo} {z : Value} (ht : P.underlying t = some (.slice e)) (hu : (∃ e', P.underlying u = some (.slice e')) ∨ P.underlying u = some .string) (hi : P.info? e = some i) (hz : i.zero = some z)
    {base : Option Addr} {l c n : Nat} {X : Value} (hn : (Builtin.lenOf X).run P w = .ok n w) (hroom : c < l + n) (hfits : (l + n) * i.bytes ≤ 1099511627776) (hb : 0 < i.bytes)
    {old xs : Array Value} (ho : (Builtin.firstCells i.size l (.slice base l c)).run P w.drew = .ok old w.drew) (hf : (Builtin.firstCells i.size n X).run P w.drew = .ok xs w.drew) :
    (Builtin.append_ #[t, u] ty #[.slice base l c, X]).run P w =
      .ok (.slice (some ⟨w.heap.size, 0, none⟩) (l + n) (grownCap w (l + n) c e)) (w.drew.alloc (.cells (old ++ xs ++ Builtin.zeroCells z.cells (grownCap w (l + n) c e - (l + n))) e)) := by
  have hle : l + n ≤ 1099511627776 := Nat.le_trans (Nat.le_mul_of_pos_right _ hb) hfits
  have h1 : ¬ (l + n ≤ c) := by omega
  have h63' : ¬ (9223372036854775807 < ((l : Int) + (n : Int))) := by omega
  have h48 := growslice_fits hroom (Nat.le_trans hfits (by decide))
  have h48' : ¬ (281474976710656 < Builtin.nextslicecap (l + n) c * i.bytes) := by omega
  rcases hu with ⟨e', hut⟩ | hut <;> simp [Builtin.append_, run_underlying ht, run_underlying hut, sizeOf, typeInfo, zeroValue, hi, hz, hn, h1, h63', h48', Question.forced, ho, hf, newRow, grownCap]
theorem slu_size {n c s : Nat} (h : n ≤ c) : n * s + (c - n) * s = c * s := by rw [← Nat.add_mul]; congr 1; omega
theorem czero_zero {e : TypeId} {i : TypeInfo} {z : List AVal} (hi : P.info? e = some i) (hz : czero P e = some z) : ∃ x : Value, i.zero = some x ∧ x.cells.size = z.length := by
  obtain ⟨x, _, hs, h⟩ := czero_run (P := P) (w := default) (m := fun _ => none) hz
  exact ⟨x, h i hi, by simpa using hs.length⟩
theorem grown_rel (hW : WR w0 m σ w) {e : TypeId} {n c k d : Nat} {z : Array Value} (hz : z.size = k) {old new : List AVal} {xs ys : Array Value} (ho : SRs m old xs.toList) (hn : SRs m new ys.toList) (hs : xs.size + ys.size = n * k) (hc : n ≤ c)
    {esz : Nat} {root : Pos} {vb : Nat} {nx : Pos} (h2 : σ.next.nat < nx.nat) (hroot : root.nat < nx.nat) :
    ∃ mi, WR w0 (upd m σ.next mi) (σ.layAt σ.next ⟨esz, .fam root vb, old ++ new⟩ nx) { w with heap := w.heap.push (.cells (xs ++ ys ++ Builtin.zeroCells z (c - n)) e (0, 0)), drawn := d } ∧
      VR (upd m σ.next mi) (.slu σ.next 0 n k) (.slice (some ⟨w.heap.size, 0, none⟩) n c) := by
  have hl := ho.length
  have hl2 := hn.length
  refine ⟨_, hW.add (hW.fresh (Nat.le_refl _)) h2 (Nat.le_of_lt h2) (fun r v hk => by cases hk; exact hroot) ?_ (fun i hi h => by omega), ?_⟩
  · intro i v hv
    simp only at hv
    obtain ⟨x, hx, hsx⟩ := (ho.append hn).get hv
    refine ⟨x, ?_, hsx⟩
    rw [← Array.getElem?_toList]
    simp only [Array.toList_append]
    rw [List.getElem?_append_left (List.getElem?_eq_some_iff.1 hx).1]
    exact hx
  · refine (SR.slu σ.next 0 n k _ _ c (upd_same _ _ _) hc (.inl rfl) (.inr ?_)).vr
    simp only [Array.size_append, size_zeroCells, hz, Nat.zero_add]
    have := slu_size (s := k) hc
    omega
theorem next_lt {p q : Pos} (h : p.next = some q) : p.nat < q.nat := by have := Pos.next_nat h; omega
theorem newFam_eq {esz n : Nat} {cells : List AVal} (h : newFam σ esz n cells = some (v, σ')) : ∃ nx, σ.next.next = some nx ∧ v = .slu σ.next 0 n esz ∧ σ' = σ.layAt σ.next ⟨esz, .fam σ.next 0, cells⟩ nx := by
  unfold newFam at h
  obtain ⟨⟨p, σ1⟩, h1, h⟩ := andThen_eq.1 h
  rw [allocR_eq] at h1
  obtain ⟨rfl, nx, h2, rfl⟩ := alloc_eq h1
  simp only [forceNat_eq] at h
  cases h
  exact ⟨nx, h2, rfl, rfl⟩
theorem upd_below {p b : Pos} {mi : MI} (hp : σ.next.nat ≤ p.nat) (h : b.nat < σ.next.nat) : upd m p mi b = m b := upd_ne m (fun e => by subst e; omega) mi
theorem firstCells_zero {x : AVal} {X : Value} (hx : VR m x X) {n : Nat} (hn : slLen x = some n) (k : Nat) : (Builtin.firstCells k 0 X).run P w = .ok #[] w := by
    have : ∃ bs l c, X = .slice bs l c ∨ ∃ b, X = .string b := by
      unfold slLen at hn
      split at hn
      · exact ⟨_, _, _, .inl hx.nsl⟩
      · obtain ⟨mi, _, h, rfl⟩ := hx.sl; exact ⟨_, _, _, .inl rfl⟩
      · obtain ⟨mi, off, cap, _, h, _, _, rfl⟩ := hx.slu; exact ⟨_, _, _, .inl rfl⟩
      · obtain ⟨b, rfl, _⟩ := hx.str; exact ⟨none, 0, 0, .inr ⟨_, rfl⟩⟩
      · cases hn
    obtain ⟨bs, l, c, rfl | ⟨b, rfl⟩⟩ := this
    · cases bs with
      | none => rfl
      | some a => simp [Builtin.firstCells, loadCells, loadCellsFrom]
    · simp only [Builtin.firstCells, Sem.run_pure]
      congr 1
      rw [ByteArray.data_extract]
      apply Array.ext'
      simp
theorem append_sim {t u ty e : TypeId} {i : TypeInfo} {z : List AVal} (ht : P.underlying t = some (.slice e)) (hu : (∃ e', P.underlying u = some (.slice e')) ∨ P.underlying u = some .string) (hi : P.info? e = some i) (hz : czero P e = some z)
    (hc : 0 < i.size ∧ 0 < i.bytes ∧ z.length = i.size) (hW : WR w0 m σ w) {s x : AVal} {S' X : Value} (hs : VR m s S') (hx : VR m x X) (hv : appendA i.size i.bytes s x σ = some (v, σ')) :
    ERuns w0 w m σ ((Builtin.append_ #[t, u] ty #[S', X]).run P w) v σ' := by
  unfold appendA at hv
  obtain ⟨n, hn, hv⟩ := andThen_eq.1 hv
  have hlen : ∀ w, (Builtin.lenOf X).run P w = .ok n w := fun w => slLen_run hx hn
  obtain ⟨zv, hzv, hzl⟩ := czero_zero hi hz
  cases n with
  | zero =>
    obtain ⟨hsl, hv⟩ := test_eq.1 hv
    cases hv
    have key : ∃ base l c, S' = .slice base l c ∧ l ≤ c := by
      unfold isSl at hsl
      split at hsl
      · exact ⟨none, 0, 0, hs.nsl, Nat.le_refl _⟩
      · obtain ⟨mi, _, h, rfl⟩ := hs.sl; exact ⟨_, _, _, rfl, h⟩
      · obtain ⟨mi, off, cap, _, h, _, _, rfl⟩ := hs.slu; exact ⟨_, _, _, rfl, h⟩
      · cases hsl
    obtain ⟨base, l, c, rfl, hlc⟩ := key
    have hfc := firstCells_zero (P := P) (w := w) hx hn i.size
    refine ⟨.slice base l c, w, m, ?_, hs, m.le_refl, fun _ _ => rfl, hW, Nat.le_refl _⟩
    cases base with
    | some a => exact append_room ht hu hi (hlen w) hlc hfc rfl
    | none =>
              rcases hu with ⟨e', hut⟩ | hut <;> simp [Builtin.append_, run_underlying ht, run_underlying hut, sizeOf, typeInfo, hi, hlen, hlc, hfc]
  | succ n' =>
    simp only [forceNat_eq, Nat.succ_eq_add_one] at hv
    have hpos : 0 < n' + 1 := by omega
    generalize n' + 1 = n at *
    have hWd : WR w0 m σ w.drew := hW.drawn _
    unfold appN at hv
    split at hv
    · -- nil
      obtain ⟨hfit, hv⟩ := test_eq.1 hv
      obtain ⟨new, hr, hv⟩ := andThen_eq.1 hv
      obtain ⟨nx, h1, rfl, rfl⟩ := newFam_eq hv
      obtain ⟨xs, hf, hsx, hl⟩ := slRead_run hWd hx hn (Nat.le_refl _) hr P
      have hS := hs.nsl
      subst hS
      have hfit := Nat.le_of_ble_eq_true hfit
      obtain ⟨mi, g1, g2⟩ := grown_rel hW (e := e) (n := 0 + n) (c := grownCap w (0 + n) 0 e) (z := zv.cells) (k := i.size) (d := w.drawn + 1) (hzl.trans hc.2.2) (.nil) hsx (xs := #[]) (ys := xs.toArray) (by simp [hl]) (grownCap_ge w (0 + n) 0 e) (esz := i.size) (root := σ.next) (vb := 0) (next_lt h1) (next_lt h1)
      refine ⟨_, _, upd m σ.next mi, append_grow (l := 0) (c := 0) (base := none) ht hu hi hzv (hlen w) (by omega) (by simpa using hfit) hc.2.1 (run_firstCells_none _ _ _ _ _) hf, ?_, ?_, ?_, ?_, ?_⟩
      · simpa only [Nat.zero_add] using g2
      · exact upd_le (hW.fresh (Nat.le_refl _)) _
      · intro b hb; exact upd_below (Nat.le_refl _) hb
      · exact g1
      · exact Nat.le_of_lt (next_lt h1)
    · -- a slice whose capacity is known
      rename_i b o l c _
      obtain ⟨mi, hm, hlc, rfl⟩ := hs.sl
      unfold appSl at hv
      split at hv
      · rename_i hroom
        have hroom := Nat.le_of_ble_eq_true hroom
        obtain ⟨new, hr, hv⟩ := andThen_eq.1 hv
        obtain ⟨σ1, hput, hv⟩ := andThen_eq.1 hv
        simp only [forceNat_eq] at hv
        cases hv
        obtain ⟨xs, hf, hsx, hl⟩ := slRead_run hW hx hn (Nat.le_refl _) hr P
        obtain ⟨p1, p2, p3⟩ := hW.put hput hm hsx
        refine ⟨_, _, m, append_room ht hu hi (hlen w) hroom hf ?_, (SR.sl b o (l + n) c mi hm hroom).vr, m.le_refl, fun _ _ => rfl, p2, by rw [p3]; exact Nat.le_refl _⟩
        rw [Addr.add_lit, Nat.add_assoc]
        exact p1 P
      · rename_i hroom
        have hroom : c < l + n := by
          have : ¬ (l + n ≤ c) := fun h => by rw [Nat.ble_eq_true_of_le h] at hroom; cases hroom
          omega
        obtain ⟨hfit, hv⟩ := test_eq.1 hv
        have hfit := Nat.le_of_ble_eq_true hfit
        obtain ⟨old, hro, hv⟩ := andThen_eq.1 hv
        obtain ⟨new, hr, hv⟩ := andThen_eq.1 hv
        rw [appL_eq] at hv
        obtain ⟨nx, h1, rfl, rfl⟩ := newFam_eq hv
        obtain ⟨xs, hf, hsx, hl⟩ := slRead_run hWd hx hn (Nat.le_refl _) hr P
        obtain ⟨os, hfo, hso, hlo⟩ := rdN_run hWd hro hm P
        obtain ⟨mi', g1, g2⟩ := grown_rel hW (e := e) (n := l + n) (c := grownCap w (l + n) c e) (z := zv.cells) (k := i.size) (d := w.drawn + 1) (hzl.trans hc.2.2) (xs := os.toArray) (ys := xs.toArray) hso hsx (by simp [hl, hlo, Nat.add_mul]) (grownCap_ge w (l + n) c e) (esz := i.size) (root := σ.next) (vb := 0) (next_lt h1) (next_lt h1)
        exact ⟨_, _, _, append_grow ht hu hi hzv (hlen w) hroom hfit hc.2.1 hfo hf, g2, upd_le (hW.fresh (Nat.le_refl _)) _, fun b hb => upd_below (Nat.le_refl _) hb, g1, Nat.le_of_lt (next_lt h1)⟩
    · -- a slice whose capacity is the tape's
      rename_i b o l esz _
      obtain ⟨hez, hv2⟩ := test_eq.1 hv
      clear hv
      have hez := Nat.eq_of_beq_eq_true hez
      subst hez
      have hv := hv2
      clear hv2
      obtain ⟨mi, off, c, hm, hlc, hoff, hsz, rfl⟩ := hs.slu
      unfold appSlu at hv
      obtain ⟨hfit, hv⟩ := test_eq.1 hv
      have hfit := Nat.le_of_ble_eq_true hfit
      obtain ⟨blk, hb, hv⟩ := andThen_eq.1 hv
      obtain ⟨_, kind, cs⟩ := blk
      unfold appFam at hv
      simp only at hv
      split at hv
      · rename_i root vb
        obtain ⟨old, hro, hv⟩ := andThen_eq.1 hv
        obtain ⟨new, hr, hv⟩ := andThen_eq.1 hv
        rw [appL_eq, killK_eq] at hv
        obtain ⟨⟨v1, σ1⟩, hv3, hpr⟩ := andThen_eq.1 hv
        simp only at hpr
        rw [pruneV_eq] at hpr
        cases hpr
        rw [layFam_unf] at hv3
        rw [forceNat_eq, lay_eq] at hv3
        simp only at hv3
        rw [Pos.nextK_eq] at hv3
        split at hv3
        · rename_i nx h1
          rw [forceNat_eq] at hv3
          cases hv3
          rw [dropN_eq] at hro
          have hrd : rdN σ b o (l * i.size) = some old := by
            cases hk : l * i.size with
            | zero => rw [hk, takeN_zero] at hro; exact hro
            | succ k =>
              rw [hk] at hro
              obtain ⟨h2, h3⟩ := takeN_eq.1 hro
              refine read_eq.2 ⟨_, hb, .inr ?_, h3⟩
              simp at h2 ⊢; omega
          have hrt : root.nat < σ.next.nat := by
            by_cases h : root.nat < σ.next.nat
            · exact h
            · exact absurd rfl ((hW.tidy root (by omega)).2.2 b _ root vb hb rfl)
          have hrn : root.nat < nx.nat := by have := next_lt h1; omega
          by_cases hroom : l + n ≤ c
          · have hoff : off = (⟨mi.c, mi.base + o, none⟩ : Addr) := by
              rcases hoff with h | ⟨h, h'⟩
              · exact h
              · omega
            have hsz : mi.base + o + c * i.size ≤ mi.size := by
              rcases hsz with h | h
              · omega
              · exact h
            subst hoff
            obtain ⟨xs, hf, hsx, hl⟩ := slRead_run hW hx hn (Nat.le_refl _) hr P
            obtain ⟨os, hfo, hso, hlo⟩ := rdN_cells hW hrd hm
            have hfits : (l + n) * i.size ≤ c * i.size := Nat.mul_le_mul_right _ hroom
            rw [Nat.add_mul] at hfits
            obtain ⟨s1, s2⟩ := hW.share (p := σ.next) (nx := nx) (k := l * i.size) (esz := i.size) (fr := vb + o + l * i.size - 1) (by omega) hb rfl hm (Nat.le_refl _) (next_lt h1) hso hsx hlo hfo (by rw [hl]; omega)
            refine ⟨_, _, _, append_room ht hu hi (hlen w) hroom hf ?_, ?_, upd_le (hW.fresh (Nat.le_refl _)) _, fun b hb => upd_below (Nat.le_refl _) hb, s2.prune hrn, Nat.le_of_lt (next_lt h1)⟩
            · rw [Addr.add_lit]; exact s1 P
            · exact (SR.slu σ.next 0 (l + n) i.size ⟨mi.c, mi.base + o, mi.size⟩ _ c (upd_same _ _ _) hroom (.inl rfl) (.inr hsz)).vr
          · have hroom : c < l + n := by omega
            obtain ⟨xs, hf, hsx, hl⟩ := slRead_run hWd hx hn (Nat.le_refl _) hr P
            obtain ⟨os, hfo, hso, hlo⟩ := slRead_run hWd hs (n := l) (esz := i.size) (new := old) rfl (Nat.le_refl _) hrd P
            have hWk := hW.fewer (h := kill (vb + o + l * i.size - 1) σ.next (famOf root σ.fams) σ.heap) (fun q bq hq => (get_kill hq).1)
            obtain ⟨mi', g1, g2⟩ := grown_rel hWk (e := e) (n := l + n) (c := grownCap w (l + n) c e) (z := zv.cells) (k := i.size) (d := w.drawn + 1) (hzl.trans hc.2.2) (xs := os.toArray) (ys := xs.toArray) hso hsx (by simp [hl, hlo, Nat.add_mul]) (grownCap_ge w (l + n) c e) (esz := i.size) (root := root) (vb := vb + o) (next_lt h1) (by
              by_cases h : root.nat < σ.next.nat
              · have := next_lt h1; omega
              · exact absurd rfl ((hW.tidy root (by omega)).2.2 b _ root vb hb rfl))
            exact ⟨_, _, _, append_grow ht hu hi hzv (hlen w) hroom hfit hc.2.1 hfo hf, g2, upd_le (hW.fresh (Nat.le_refl _)) _, fun b hb => upd_below (Nat.le_refl _) hb, g1.prune hrn, Nat.le_of_lt (next_lt h1)⟩
        · cases hv3
      · cases hv
    · cases hv
theorem store_sim {t : TypeId} {n : Nat} (ht : csize P t = some n) (hW : WR w0 m σ w) {x y : AVal} {X Y : Value} (hx : VR m x X) (hy : VR m y Y) {cs : List AVal} (hcs : cellsOf y = some cs) (hv : storeV n cs x σ = some (v, σ')) :
    ∃ w', (Instr.storeAt t X Y).run P w = .ok () w' ∧ v = .undef ∧ WR w0 m σ' w' ∧ σ'.next = σ.next := by
  unfold storeV at hv
  split at hv
  · rename_i b o
    obtain ⟨hl, hv⟩ := test_eq.1 hv
    have hl := Nat.eq_of_beq_eq_true hl
    rw [lenN_eq] at hl
    obtain ⟨mi, hm, rfl⟩ := hx.ptr
    have hc := hy.cells hcs
    have hcl := hc.length
    have hsz : Y.cells.size = n := by rw [← hl, ← hcl]; simp
    have hrun : ∀ r, (storeCells ⟨mi.c, mi.base + o, none⟩ Y.cells.toList).run P w = r → (Instr.storeAt t (.pointer (some ⟨mi.c, mi.base + o, none⟩)) Y).run P w = r := by
      intro r hr
      simp only [Instr.storeAt, Instr.sureAddr, storeVar, Sem.run_bind, Sem.run_pure, Result.andThen_ok, sizeOf_run ht, hsz, ne_eq, not_true, if_false]
      exact hr
    cases n with
    | zero =>
      simp only at hv
      cases hv
      refine ⟨w, hrun _ ?_, rfl, hW, rfl⟩
      have : Y.cells.toList = [] := List.length_eq_zero_iff.1 (by omega)
      rw [this]; rfl
    | succ n =>
      simp only at hv
      obtain ⟨σ1, hp, hv⟩ := andThen_eq.1 hv
      cases hv
      obtain ⟨p1, p2, p3⟩ := hW.put hp hm hc
      exact ⟨_, hrun _ (p1 P), rfl, p2, p3⟩
  · cases hv
theorem minN_eq (a b : Nat) : minN a b = Nat.min a b := by
  unfold minN
  cases h : Nat.ble a b with
  | true => have := Nat.le_of_ble_eq_true h; show a = min a b; omega
  | false =>
    have : ¬ a ≤ b := fun h' => by rw [Nat.ble_eq_true_of_le h'] at h; cases h
    show b = min a b; omega
theorem slice_key {d : AVal} {D : Value} (hd : VR m d D) {b : Nat} (hb : slLen d = some b) (hsl : isSl d = true) : ∃ base c, D = .slice base b c ∧ (∀ a0, base = some a0 → ∃ bb o mi, m bb = some mi ∧ (d = .sl bb o b c ∨ ∃ z, d = .slu bb o b z) ∧ (a0 = ⟨mi.c, mi.base + o, none⟩ ∨ b = 0)) ∧ (base = none → b = 0) := by
  unfold isSl at hsl
  split at hsl
  · cases hb; exact ⟨none, 0, hd.nsl, fun a h => (nomatch h), fun _ => rfl⟩
  · rename_i bb o l c
    cases hb
    obtain ⟨mi, hm, h, rfl⟩ := hd.sl; exact ⟨_, c, rfl, fun a h => by cases h; exact ⟨bb, o, mi, hm, .inl rfl, .inl rfl⟩, fun h => by cases h⟩
  · rename_i bb o l z
    cases hb
    obtain ⟨mi, off, cap, hm, h, ho, _, rfl⟩ := hd.slu
    refine ⟨_, cap, rfl, fun a h => ?_, fun h => by cases h⟩
    cases h
    refine ⟨bb, o, mi, hm, .inr ⟨z, rfl⟩, ?_⟩
    rcases ho with ho | ⟨ho, _⟩
    · exact .inl ho
    · exact .inr ho
  · cases hsl
theorem copy_sim {t u ty e : TypeId} {n : Nat} (ht : P.underlying t = some (.slice e)) (hs : csize P e = some n) (hW : WR w0 m σ w) {d s : AVal} {D X : Value} (hd : VR m d D) (hx : VR m s X) (hv : copyA n d s σ = some (v, σ')) :
    ERuns w0 w m σ ((Builtin.copy_ #[t, u] ty #[D, X]).run P w) v σ' := by
  unfold copyA at hv
  obtain ⟨a, ha, hv⟩ := andThen_eq.1 hv
  obtain ⟨b, hb, hv⟩ := andThen_eq.1 hv
  obtain ⟨hsl, hv⟩ := test_eq.1 hv
  rw [minN_eq] at hv
  obtain ⟨base, c, rfl, hbase, hnone⟩ := slice_key hd hb hsl
  have hlen := slLen_run (P := P) (w := w) hx ha
  have hsz := sizeOf_run (w := w) hs
  cases hk : Nat.min a b with
  | zero =>
    rw [hk] at hv
    simp only at hv
    cases hv
    have hf := firstCells_zero (P := P) (w := w) hx ha n
    refine ⟨goInt 0, w, m, ?_, (SR.int _ _).vr, m.le_refl, fun _ _ => rfl, hW, Nat.le_refl _⟩
    cases base with
    | none => simp [Builtin.copy_, run_underlying ht, hlen, hk, hsz, hf]
    | some a0 => simp [Builtin.copy_, run_underlying ht, hlen, hk, hsz, hf, storeCells]
  | succ k =>
    rw [hk] at hv
    simp only [forceNat_eq, Nat.succ_eq_add_one] at hv
    obtain ⟨new, hr, hv⟩ := andThen_eq.1 hv
    have hle : k + 1 ≤ a := by have : Nat.min a b ≤ a := Nat.min_le_left a b; omega
    have hlb : k + 1 ≤ b := by have : Nat.min a b ≤ b := Nat.min_le_right a b; omega
    obtain ⟨xs, hf, hsx, hl⟩ := slRead_run hW hx ha hle hr P
    cases base with
    | none => have := hnone rfl; omega
    | some a0 =>
      obtain ⟨bb, o, mi, hm, hdd, ha0⟩ := hbase a0 rfl
      have ha0 : a0 = ⟨mi.c, mi.base + o, none⟩ := ha0.resolve_right (by omega)
      subst ha0
      have hput : ∃ σ1, σ.put bb o new = some σ1 ∧ v = .int .i64 (.ofNat (k + 1)) ∧ σ' = σ1 := by
        unfold copyTo at hv
        rcases hdd with rfl | ⟨z, rfl⟩ <;>
        · simp only at hv
          obtain ⟨σ1, hp, hv⟩ := andThen_eq.1 hv
          cases hv
          exact ⟨_, hp, rfl, rfl⟩
      obtain ⟨σ1, hp, rfl, rfl⟩ := hput
      obtain ⟨p1, p2, p3⟩ := hW.put hp hm hsx
      refine ⟨goInt ((k + 1 : Nat) : Int), _, m, ?_, (SR.int _ _).vr, m.le_refl, fun _ _ => rfl, p2, by rw [p3]; exact Nat.le_refl _⟩
      simp only [Builtin.copy_, List.getElem?_toArray, List.getElem?_cons_zero, List.getElem?_cons_succ, Sem.run_bind, run_underlying ht, Result.andThen_ok, hlen, hk, hsz, hf, p1 P, Sem.run_pure]
end
end Go.Am
