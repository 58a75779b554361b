/-
  Stores, copies and appends. Conditions: none.
-/
import Derived.Test.YthnjfpfcnpefaaaGreatK13
import Derived.Laws.Append
namespace Go.Am
open Go.RowKit (Below)
/-- What an operation that changes memory comes to. -/
def ERuns (w0 _ : World) (m : Mp) (σ : S) (r : Result Value) (v : AVal) (σ' : S) : Prop :=
  ∃ x w' m', r = .ok x w' ∧ VR m' v x ∧ m.le m' ∧ (∀ b : Pos, b.nat < σ.next.nat → m' b = m b) ∧ WR w0 m' σ' w' ∧ σ.next.nat ≤ σ'.next.nat
section
variable {P : Program} {w0 w : World} {m : Mp} {σ σ' : S} {v : AVal}
theorem append_room {t u ty e : TypeId} {i : TypeInfo} (ht : P.underlying t = some (.slice e)) (hu : (∃ e', P.underlying u = some (.slice e')) ∨ P.underlying u = some .string) (hi : P.info? e = some i)
    {a : Addr} {l c n : Nat} {X : Value} (hn : (Builtin.lenOf X).run P w = .ok n w) (hroom : l + n ≤ c) {xs : Array Value} {w' : World} (hf : (Builtin.firstCells i.size n X).run P w = .ok xs w)
    (hst : (storeCells (a.add (l * i.size)) xs.toList).run P w = .ok () w') :
    (Builtin.append_ #[t, u] ty #[.slice (some a) l c, X]).run P w = .ok (.slice (some a) (l + n) c) w' := by
  rcases hu with ⟨e', hut⟩ | hut <;> simp [Builtin.append_, run_underlying ht, run_underlying hut, sizeOf, typeInfo, hi, hn, hroom, hf, hst]
theorem append_grow {t u ty e : TypeId} {i : TypeInfo} {z : Value} (ht : P.underlying t = some (.slice e)) (hu : (∃ e', P.underlying u = some (.slice e')) ∨ P.underlying u = some .string) (hi : P.info? e = some i) (hz : i.zero = some z)
    {base : Option Addr} {l c n : Nat} {X : Value} (hn : (Builtin.lenOf X).run P w = .ok n w) (hroom : c < l + n) (hfits : (l + n) * i.bytes ≤ 1099511627776) (hb : 0 < i.bytes)
    {old xs : Array Value} (ho : (Builtin.firstCells i.size l (.slice base l c)).run P w.drew = .ok old w.drew) (hf : (Builtin.firstCells i.size n X).run P w.drew = .ok xs w.drew) :
    (Builtin.append_ #[t, u] ty #[.slice base l c, X]).run P w =
      .ok (.slice (some ⟨w.heap.size, 0, none⟩) (l + n) (grownCap w (l + n) c e)) (w.drew.alloc (.cells (old ++ xs ++ Builtin.zeroCells z.cells (grownCap w (l + n) c e - (l + n))) e)) := by
  have hle : l + n ≤ 1099511627776 := Nat.le_trans (Nat.le_mul_of_pos_right _ hb) hfits
  have h1 : ¬ (l + n ≤ c) := by omega
  have h63' : ¬ (9223372036854775807 < ((l : Int) + (n : Int))) := by omega
  have h48 := growslice_fits hroom (Nat.le_trans hfits (by decide))
  have h48' : ¬ (281474976710656 < Builtin.nextslicecap (l + n) c * i.bytes) := by omega
  rcases hu with ⟨e', hut⟩ | hut <;> simp [Builtin.append_, run_underlying ht, run_underlying hut, sizeOf, typeInfo, zeroValue, hi, hz, hn, h1, h63', h48', Question.forced, ho, hf, newRow, grownCap]
theorem slu_size {n c s : Nat} (h : n ≤ c) : n * s + (c - n) * s = c * s := by rw [← Nat.add_mul]; congr 1; omega
theorem czero_zero {e : TypeId} {i : TypeInfo} {z : List AVal} (hi : P.info? e = some i) (hz : czero P e = some z) : ∃ x : Value, i.zero = some x ∧ x.cells.size = z.length := by
  obtain ⟨x, _, hs, h⟩ := czero_run (P := P) (w := default) (m := fun _ => none) hz
  exact ⟨x, h i hi, by simpa using hs.length⟩
/-- A NEW FAMILY MEMBER, OF WHICHEVER FAMILY. -/
theorem grown_rel (hW : WR w0 m σ w) {e : TypeId} {n c k d : Nat} {z : Array Value} (hz : z.size = k) {old new : List AVal} {xs ys : Array Value} (ho : SRs m old xs.toList) (hn : SRs m new ys.toList) (hs : xs.size + ys.size = n * k) (hc : n ≤ c)
    {esz : Nat} {root : Pos} {vb : Nat} {nx : Pos} (h2 : σ.next.nat < nx.nat) (hroot : root.nat < nx.nat) :
    ∃ mi, WR w0 (upd m σ.next mi) (σ.layAt σ.next ⟨esz, .fam root vb, old ++ new⟩ nx) { w with heap := w.heap.push (.cells (xs ++ ys ++ Builtin.zeroCells z (c - n)) e (0, 0)), drawn := d } ∧
      VR (upd m σ.next mi) (.slu σ.next 0 n k) (.slice (some ⟨w.heap.size, 0, none⟩) n c) := by
  have hl := ho.length
  have hl2 := hn.length
  refine ⟨_, hW.add (hW.fresh (Nat.le_refl _)) h2 (Nat.le_of_lt h2) (fun r v hk => by cases hk; exact hroot) ?_ (fun i hi h => by omega), ?_⟩
  · intro i v hv
    simp only at hv
    obtain ⟨x, hx, hsx⟩ := (ho.append hn).get hv
    refine ⟨x, ?_, hsx⟩
    rw [← Array.getElem?_toList]
    simp only [Array.toList_append]
    rw [List.getElem?_append_left (List.getElem?_eq_some_iff.1 hx).1]
    exact hx
  · refine (SR.slu σ.next 0 n k _ _ c (upd_same _ _ _) hc (.inl rfl) (.inr ?_)).vr
    simp only [Array.size_append, size_zeroCells, hz, Nat.zero_add]
    have := slu_size (s := k) hc
    omega
theorem next_lt {p q : Pos} (h : p.next = some q) : p.nat < q.nat := by have := Pos.next_nat h; omega
theorem newFam_eq {esz n : Nat} {cells : List AVal} (h : newFam σ esz n cells = some (v, σ')) : ∃ nx, σ.next.next = some nx ∧ v = .slu σ.next 0 n esz ∧ σ' = σ.layAt σ.next ⟨esz, .fam σ.next 0, cells⟩ nx := by
  unfold newFam at h
  obtain ⟨⟨p, σ1⟩, h1, h⟩ := andThen_eq.1 h
  rw [allocR_eq] at h1
  obtain ⟨rfl, nx, h2, rfl⟩ := alloc_eq h1
  simp only [forceNat_eq] at h
  cases h
  exact ⟨nx, h2, rfl, rfl⟩
theorem upd_below {p b : Pos} {mi : MI} (hp : σ.next.nat ≤ p.nat) (h : b.nat < σ.next.nat) : upd m p mi b = m b := upd_ne m (fun e => by subst e; omega) mi
theorem firstCells_zero {x : AVal} {X : Value} (hx : VR m x X) {n : Nat} (hn : slLen x = some n) (k : Nat) : (Builtin.firstCells k 0 X).run P w = .ok #[] w := by
    have : ∃ bs l c, X = .slice bs l c ∨ ∃ b, X = .string b := by
      unfold slLen at hn
      split at hn
      · exact ⟨_, _, _, .inl hx.nsl⟩
      · obtain ⟨mi, _, h, rfl⟩ := hx.sl; exact ⟨_, _, _, .inl rfl⟩
      · obtain ⟨mi, off, cap, _, h, _, _, rfl⟩ := hx.slu; exact ⟨_, _, _, .inl rfl⟩
      · obtain ⟨b, rfl, _⟩ := hx.str; exact ⟨none, 0, 0, .inr ⟨_, rfl⟩⟩
      · cases hn
    obtain ⟨bs, l, c, rfl | ⟨b, rfl⟩⟩ := this
    · cases bs with
      | none => rfl
      | some a => simp [Builtin.firstCells, loadCells, loadCellsFrom]
    · simp only [Builtin.firstCells, Sem.run_pure]
      congr 1
      rw [ByteArray.data_extract]
      apply Array.ext'
      simp
/-- APPEND. -/
theorem append_sim {t u ty e : TypeId} {i : TypeInfo} {z : List AVal} (ht : P.underlying t = some (.slice e)) (hu : (∃ e', P.underlying u = some (.slice e')) ∨ P.underlying u = some .string) (hi : P.info? e = some i) (hz : czero P e = some z)
    (hc : 0 < i.size ∧ 0 < i.bytes ∧ z.length = i.size) (hW : WR w0 m σ w) {s x : AVal} {S' X : Value} (hs : VR m s S') (hx : VR m x X) (hv : appendA i.size i.bytes s x σ = some (v, σ')) :
    ERuns w0 w m σ ((Builtin.append_ #[t, u] ty #[S', X]).run P w) v σ' := by
  unfold appendA at hv
  obtain ⟨n, hn, hv⟩ := andThen_eq.1 hv
  have hlen : ∀ w, (Builtin.lenOf X).run P w = .ok n w := fun w => slLen_run hx hn
  obtain ⟨zv, hzv, hzl⟩ := czero_zero hi hz
  cases n with
  | zero =>
    obtain ⟨hsl, hv⟩ := test_eq.1 hv
    cases hv
    have key : ∃ base l c, S' = .slice base l c ∧ l ≤ c := by
      unfold isSl at hsl
      split at hsl
      · exact ⟨none, 0, 0, hs.nsl, Nat.le_refl _⟩
      · obtain ⟨mi, _, h, rfl⟩ := hs.sl; exact ⟨_, _, _, rfl, h⟩
      · obtain ⟨mi, off, cap, _, h, _, _, rfl⟩ := hs.slu; exact ⟨_, _, _, rfl, h⟩
      · cases hsl
    obtain ⟨base, l, c, rfl, hlc⟩ := key
    have hfc := firstCells_zero (P := P) (w := w) hx hn i.size
    refine ⟨.slice base l c, w, m, ?_, hs, m.le_refl, fun _ _ => rfl, hW, Nat.le_refl _⟩
    cases base with
    | some a => exact append_room ht hu hi (hlen w) hlc hfc rfl
    | none =>
              rcases hu with ⟨e', hut⟩ | hut <;> simp [Builtin.append_, run_underlying ht, run_underlying hut, sizeOf, typeInfo, hi, hlen, hlc, hfc]
  | succ n' =>
    simp only [forceNat_eq, Nat.succ_eq_add_one] at hv
    have hpos : 0 < n' + 1 := by omega
    generalize n' + 1 = n at *
    have hWd : WR w0 m σ w.drew := hW.drawn _
    unfold appN at hv
    split at hv
    · -- nil
      obtain ⟨hfit, hv⟩ := test_eq.1 hv
      obtain ⟨new, hr, hv⟩ := andThen_eq.1 hv
      obtain ⟨nx, h1, rfl, rfl⟩ := newFam_eq hv
      obtain ⟨xs, hf, hsx, hl⟩ := slRead_run hWd hx hn (Nat.le_refl _) hr P
      have hS := hs.nsl
      subst hS
      have hfit := Nat.le_of_ble_eq_true hfit
      obtain ⟨mi, g1, g2⟩ := grown_rel hW (e := e) (n := 0 + n) (c := grownCap w (0 + n) 0 e) (z := zv.cells) (k := i.size) (d := w.drawn + 1) (hzl.trans hc.2.2) (.nil) hsx (xs := #[]) (ys := xs.toArray) (by simp [hl]) (grownCap_ge w (0 + n) 0 e) (esz := i.size) (root := σ.next) (vb := 0) (next_lt h1) (next_lt h1)
      refine ⟨_, _, upd m σ.next mi, append_grow (l := 0) (c := 0) (base := none) ht hu hi hzv (hlen w) (by omega) (by simpa using hfit) hc.2.1 (run_firstCells_none _ _ _ _ _) hf, ?_, ?_, ?_, ?_, ?_⟩
      · simpa only [Nat.zero_add] using g2
      · exact upd_le (hW.fresh (Nat.le_refl _)) _
      · intro b hb; exact upd_below (Nat.le_refl _) hb
      · exact g1
      · exact Nat.le_of_lt (next_lt h1)
    · -- a slice whose capacity is known
      rename_i b o l c _
      obtain ⟨mi, hm, hlc, rfl⟩ := hs.sl
      unfold appSl at hv
      split at hv
      · rename_i hroom
        have hroom := Nat.le_of_ble_eq_true hroom
        obtain ⟨new, hr, hv⟩ := andThen_eq.1 hv
        obtain ⟨σ1, hput, hv⟩ := andThen_eq.1 hv
        simp only [forceNat_eq] at hv
        cases hv
        obtain ⟨xs, hf, hsx, hl⟩ := slRead_run hW hx hn (Nat.le_refl _) hr P
        obtain ⟨p1, p2, p3⟩ := hW.put hput hm hsx
        refine ⟨_, _, m, append_room ht hu hi (hlen w) hroom hf ?_, (SR.sl b o (l + n) c mi hm hroom).vr, m.le_refl, fun _ _ => rfl, p2, by rw [p3]; exact Nat.le_refl _⟩
        rw [Addr.add_lit, Nat.add_assoc]
        exact p1 P
      · rename_i hroom
        have hroom : c < l + n := by
          have : ¬ (l + n ≤ c) := fun h => by rw [Nat.ble_eq_true_of_le h] at hroom; cases hroom
          omega
        obtain ⟨hfit, hv⟩ := test_eq.1 hv
        have hfit := Nat.le_of_ble_eq_true hfit
        obtain ⟨old, hro, hv⟩ := andThen_eq.1 hv
        obtain ⟨new, hr, hv⟩ := andThen_eq.1 hv
        rw [appL_eq] at hv
        obtain ⟨nx, h1, rfl, rfl⟩ := newFam_eq hv
        obtain ⟨xs, hf, hsx, hl⟩ := slRead_run hWd hx hn (Nat.le_refl _) hr P
        obtain ⟨os, hfo, hso, hlo⟩ := rdN_run hWd hro hm P
        obtain ⟨mi', g1, g2⟩ := grown_rel hW (e := e) (n := l + n) (c := grownCap w (l + n) c e) (z := zv.cells) (k := i.size) (d := w.drawn + 1) (hzl.trans hc.2.2) (xs := os.toArray) (ys := xs.toArray) hso hsx (by simp [hl, hlo, Nat.add_mul]) (grownCap_ge w (l + n) c e) (esz := i.size) (root := σ.next) (vb := 0) (next_lt h1) (next_lt h1)
        exact ⟨_, _, _, append_grow ht hu hi hzv (hlen w) hroom hfit hc.2.1 hfo hf, g2, upd_le (hW.fresh (Nat.le_refl _)) _, fun b hb => upd_below (Nat.le_refl _) hb, g1, Nat.le_of_lt (next_lt h1)⟩
    · -- a slice whose capacity is the tape's
      rename_i b o l esz _
      obtain ⟨hez, hv2⟩ := test_eq.1 hv
      clear hv
      have hez := Nat.eq_of_beq_eq_true hez
      subst hez
      have hv := hv2
      clear hv2
      obtain ⟨mi, off, c, hm, hlc, hoff, hsz, rfl⟩ := hs.slu
      unfold appSlu at hv
      obtain ⟨hfit, hv⟩ := test_eq.1 hv
      have hfit := Nat.le_of_ble_eq_true hfit
      obtain ⟨blk, hb, hv⟩ := andThen_eq.1 hv
      obtain ⟨_, kind, cs⟩ := blk
      unfold appFam at hv
      simp only at hv
      split at hv
      · rename_i root vb
        obtain ⟨old, hro, hv⟩ := andThen_eq.1 hv
        obtain ⟨new, hr, hv⟩ := andThen_eq.1 hv
        rw [appL_eq, killK_eq] at hv
        obtain ⟨⟨v1, σ1⟩, hv3, hpr⟩ := andThen_eq.1 hv
        simp only at hpr
        rw [pruneV_eq] at hpr
        cases hpr
        rw [layFam_unf] at hv3
        rw [forceNat_eq, lay_eq] at hv3
        simp only at hv3
        rw [Pos.nextK_eq] at hv3
        split at hv3
        · rename_i nx h1
          rw [forceNat_eq] at hv3
          cases hv3
          rw [dropN_eq] at hro
          have hrd : rdN σ b o (l * i.size) = some old := by
            cases hk : l * i.size with
            | zero => rw [hk, takeN_zero] at hro; exact hro
            | succ k =>
              rw [hk] at hro
              obtain ⟨h2, h3⟩ := takeN_eq.1 hro
              refine read_eq.2 ⟨_, hb, .inr ?_, h3⟩
              simp at h2 ⊢; omega
          have hrt : root.nat < σ.next.nat := by
            by_cases h : root.nat < σ.next.nat
            · exact h
            · exact absurd rfl ((hW.tidy root (by omega)).2.2 b _ root vb hb rfl)
          have hrn : root.nat < nx.nat := by have := next_lt h1; omega
          by_cases hroom : l + n ≤ c
          · have hoff : off = (⟨mi.c, mi.base + o, none⟩ : Addr) := by
              rcases hoff with h | ⟨h, h'⟩
              · exact h
              · omega
            have hsz : mi.base + o + c * i.size ≤ mi.size := by
              rcases hsz with h | h
              · omega
              · exact h
            subst hoff
            obtain ⟨xs, hf, hsx, hl⟩ := slRead_run hW hx hn (Nat.le_refl _) hr P
            obtain ⟨os, hfo, hso, hlo⟩ := rdN_cells hW hrd hm
            have hfits : (l + n) * i.size ≤ c * i.size := Nat.mul_le_mul_right _ hroom
            rw [Nat.add_mul] at hfits
            obtain ⟨s1, s2⟩ := hW.share (p := σ.next) (nx := nx) (k := l * i.size) (esz := i.size) (fr := vb + o + l * i.size - 1) (by omega) hb rfl hm (Nat.le_refl _) (next_lt h1) hso hsx hlo hfo (by rw [hl]; omega)
            refine ⟨_, _, _, append_room ht hu hi (hlen w) hroom hf ?_, ?_, upd_le (hW.fresh (Nat.le_refl _)) _, fun b hb => upd_below (Nat.le_refl _) hb, s2.prune hrn, Nat.le_of_lt (next_lt h1)⟩
            · rw [Addr.add_lit]; exact s1 P
            · exact (SR.slu σ.next 0 (l + n) i.size ⟨mi.c, mi.base + o, mi.size⟩ _ c (upd_same _ _ _) hroom (.inl rfl) (.inr hsz)).vr
          · have hroom : c < l + n := by omega
            obtain ⟨xs, hf, hsx, hl⟩ := slRead_run hWd hx hn (Nat.le_refl _) hr P
            obtain ⟨os, hfo, hso, hlo⟩ := slRead_run hWd hs (n := l) (esz := i.size) (new := old) rfl (Nat.le_refl _) hrd P
            have hWk := hW.fewer (h := kill (vb + o + l * i.size - 1) σ.next (famOf root σ.fams) σ.heap) (fun q bq hq => (get_kill hq).1)
            obtain ⟨mi', g1, g2⟩ := grown_rel hWk (e := e) (n := l + n) (c := grownCap w (l + n) c e) (z := zv.cells) (k := i.size) (d := w.drawn + 1) (hzl.trans hc.2.2) (xs := os.toArray) (ys := xs.toArray) hso hsx (by simp [hl, hlo, Nat.add_mul]) (grownCap_ge w (l + n) c e) (esz := i.size) (root := root) (vb := vb + o) (next_lt h1) (by
              by_cases h : root.nat < σ.next.nat
              · have := next_lt h1; omega
              · exact absurd rfl ((hW.tidy root (by omega)).2.2 b _ root vb hb rfl))
            exact ⟨_, _, _, append_grow ht hu hi hzv (hlen w) hroom hfit hc.2.1 hfo hf, g2, upd_le (hW.fresh (Nat.le_refl _)) _, fun b hb => upd_below (Nat.le_refl _) hb, g1.prune hrn, Nat.le_of_lt (next_lt h1)⟩
        · cases hv3
      · cases hv
    · cases hv
/-- STORE. -/
theorem store_sim {t : TypeId} {n : Nat} (ht : csize P t = some n) (hW : WR w0 m σ w) {x y : AVal} {X Y : Value} (hx : VR m x X) (hy : VR m y Y) {cs : List AVal} (hcs : cellsOf y = some cs) (hv : storeV n cs x σ = some (v, σ')) :
    ∃ w', (Instr.storeAt t X Y).run P w = .ok () w' ∧ v = .undef ∧ WR w0 m σ' w' ∧ σ'.next = σ.next := by
  unfold storeV at hv
  split at hv
  · rename_i b o
    obtain ⟨hl, hv⟩ := test_eq.1 hv
    have hl := Nat.eq_of_beq_eq_true hl
    rw [lenN_eq] at hl
    obtain ⟨mi, hm, rfl⟩ := hx.ptr
    have hc := hy.cells hcs
    have hcl := hc.length
    have hsz : Y.cells.size = n := by rw [← hl, ← hcl]; simp
    have hrun : ∀ r, (storeCells ⟨mi.c, mi.base + o, none⟩ Y.cells.toList).run P w = r → (Instr.storeAt t (.pointer (some ⟨mi.c, mi.base + o, none⟩)) Y).run P w = r := by
      intro r hr
      simp only [Instr.storeAt, Instr.sureAddr, storeVar, Sem.run_bind, Sem.run_pure, Result.andThen_ok, sizeOf_run ht, hsz, ne_eq, not_true, if_false]
      exact hr
    cases n with
    | zero =>
      simp only at hv
      cases hv
      refine ⟨w, hrun _ ?_, rfl, hW, rfl⟩
      have : Y.cells.toList = [] := List.length_eq_zero_iff.1 (by omega)
      rw [this]; rfl
    | succ n =>
      simp only at hv
      obtain ⟨σ1, hp, hv⟩ := andThen_eq.1 hv
      cases hv
      obtain ⟨p1, p2, p3⟩ := hW.put hp hm hc
      exact ⟨_, hrun _ (p1 P), rfl, p2, p3⟩
  · cases hv
theorem minN_eq (a b : Nat) : minN a b = Nat.min a b := by
  unfold minN
  cases h : Nat.ble a b with
  | true => have := Nat.le_of_ble_eq_true h; show a = min a b; omega
  | false =>
    have : ¬ a ≤ b := fun h' => by rw [Nat.ble_eq_true_of_le h'] at h; cases h
    show b = min a b; omega
theorem slice_key {d : AVal} {D : Value} (hd : VR m d D) {b : Nat} (hb : slLen d = some b) (hsl : isSl d = true) : ∃ base c, D = .slice base b c ∧ (∀ a0, base = some a0 → ∃ bb o mi, m bb = some mi ∧ (d = .sl bb o b c ∨ ∃ z, d = .slu bb o b z) ∧ (a0 = ⟨mi.c, mi.base + o, none⟩ ∨ b = 0)) ∧ (base = none → b = 0) := by
  unfold isSl at hsl
  split at hsl
  · cases hb; exact ⟨none, 0, hd.nsl, fun a h => (nomatch h), fun _ => rfl⟩
  · rename_i bb o l c
    cases hb
    obtain ⟨mi, hm, h, rfl⟩ := hd.sl; exact ⟨_, c, rfl, fun a h => by cases h; exact ⟨bb, o, mi, hm, .inl rfl, .inl rfl⟩, fun h => by cases h⟩
  · rename_i bb o l z
    cases hb
    obtain ⟨mi, off, cap, hm, h, ho, _, rfl⟩ := hd.slu
    refine ⟨_, cap, rfl, fun a h => ?_, fun h => by cases h⟩
    cases h
    refine ⟨bb, o, mi, hm, .inr ⟨z, rfl⟩, ?_⟩
    rcases ho with ho | ⟨ho, _⟩
    · exact .inl ho
    · exact .inr ho
  · cases hsl
/-- COPY. -/
theorem copy_sim {t u ty e : TypeId} {n : Nat} (ht : P.underlying t = some (.slice e)) (hs : csize P e = some n) (hW : WR w0 m σ w) {d s : AVal} {D X : Value} (hd : VR m d D) (hx : VR m s X) (hv : copyA n d s σ = some (v, σ')) :
    ERuns w0 w m σ ((Builtin.copy_ #[t, u] ty #[D, X]).run P w) v σ' := by
  unfold copyA at hv
  obtain ⟨a, ha, hv⟩ := andThen_eq.1 hv
  obtain ⟨b, hb, hv⟩ := andThen_eq.1 hv
  obtain ⟨hsl, hv⟩ := test_eq.1 hv
  rw [minN_eq] at hv
  obtain ⟨base, c, rfl, hbase, hnone⟩ := slice_key hd hb hsl
  have hlen := slLen_run (P := P) (w := w) hx ha
  have hsz := sizeOf_run (w := w) hs
  cases hk : Nat.min a b with
  | zero =>
    rw [hk] at hv
    simp only at hv
    cases hv
    have hf := firstCells_zero (P := P) (w := w) hx ha n
    refine ⟨goInt 0, w, m, ?_, (SR.int _ _).vr, m.le_refl, fun _ _ => rfl, hW, Nat.le_refl _⟩
    cases base with
    | none => simp [Builtin.copy_, run_underlying ht, hlen, hk, hsz, hf]
    | some a0 => simp [Builtin.copy_, run_underlying ht, hlen, hk, hsz, hf, storeCells]
  | succ k =>
    rw [hk] at hv
    simp only [forceNat_eq, Nat.succ_eq_add_one] at hv
    obtain ⟨new, hr, hv⟩ := andThen_eq.1 hv
    have hle : k + 1 ≤ a := by have : Nat.min a b ≤ a := Nat.min_le_left a b; omega
    have hlb : k + 1 ≤ b := by have : Nat.min a b ≤ b := Nat.min_le_right a b; omega
    obtain ⟨xs, hf, hsx, hl⟩ := slRead_run hW hx ha hle hr P
    cases base with
    | none => have := hnone rfl; omega
    | some a0 =>
      obtain ⟨bb, o, mi, hm, hdd, ha0⟩ := hbase a0 rfl
      have ha0 : a0 = ⟨mi.c, mi.base + o, none⟩ := ha0.resolve_right (by omega)
      subst ha0
      have hput : ∃ σ1, σ.put bb o new = some σ1 ∧ v = .int .i64 (.ofNat (k + 1)) ∧ σ' = σ1 := by
        unfold copyTo at hv
        rcases hdd with rfl | ⟨z, rfl⟩ <;>
        · simp only at hv
          obtain ⟨σ1, hp, hv⟩ := andThen_eq.1 hv
          cases hv
          exact ⟨_, hp, rfl, rfl⟩
      obtain ⟨σ1, hp, rfl, rfl⟩ := hput
      obtain ⟨p1, p2, p3⟩ := hW.put hp hm hsx
      refine ⟨goInt ((k + 1 : Nat) : Int), _, m, ?_, (SR.int _ _).vr, m.le_refl, fun _ _ => rfl, p2, by rw [p3]; exact Nat.le_refl _⟩
      simp only [Builtin.copy_, List.getElem?_toArray, List.getElem?_cons_zero, List.getElem?_cons_succ, Sem.run_bind, run_underlying ht, Result.andThen_ok, hlen, hk, hsz, hf, p1 P, Sem.run_pure]
/-! Maps made and changed. -/
theorem heap_map {r : Nat} {es : Array MapEntry} {clock : Nat} {o : Obj} (hb : w.heap[r]? = some (.map es clock)) : (setObj r o).run P w = .ok () { w with heap := w.heap.setIfInBounds r o } := by
  simp [setObj, Sem.run, hb]
/-- A MAP, OR A RANGE OVER ONE, CHANGED. -/
theorem WR.setObj (hW : WR w0 m σ w) {b : Pos} {mb mb' : MBlk} (hb : Tr.get b σ.maps = some mb) {mi : MI} (hm : m b = some mi) (ho : ∃ o, w.heap[mi.c]? = some o) (h3 : w0.heap.size ≤ mi.c) {o' : Obj} (hr : MO m mb' mi o') :
    WR w0 m ⟨σ.heap, σ.next, σ.fams, Tr.set b (some mb') σ.maps⟩ { w with heap := w.heap.setIfInBounds mi.c o' } := by
  obtain ⟨o, h1⟩ := ho
  have hnc : ∀ cs t f, o ≠ .cells cs t f := fun cs t f e => by
    subst e
    obtain ⟨mi', k1, k2⟩ := hW.mp b mb hb
    rw [hm] at k1; cases k1
    obtain ⟨o2, k3, k4⟩ := k2.obj
    rw [h1] at k3; cases k3; exact k4.cells
  have hlt := (Array.getElem?_eq_some_iff.1 h1).1
  have hne : ∀ k, k ≠ mi.c → (w.heap.setIfInBounds mi.c o')[k]? = w.heap[k]? := fun k hk => by simp [Ne.symm hk]
  have hold : ∀ b' mb2, Tr.get b' (Tr.set b (some mb') σ.maps) = some mb2 → b' = b ∧ mb2 = mb' ∨ b' ≠ b ∧ Tr.get b' σ.maps = some mb2 := fun b' mb2 h => by
    rw [Tr.get_set] at h
    by_cases e : b' = b
    · rw [if_pos e] at h; cases h; exact .inl ⟨e, rfl⟩
    · rw [if_neg e] at h; exact .inr ⟨e, h⟩
  have hthere : ∀ b' mb2, Tr.get b' (Tr.set b (some mb') σ.maps) = some mb2 → ∃ mb3, Tr.get b' σ.maps = some mb3 := fun b' mb2 h => by
    rcases hold b' mb2 h with ⟨rfl, rfl⟩ | ⟨_, h⟩
    · exact ⟨mb, hb⟩
    · exact ⟨mb2, h⟩
  refine ⟨⟨hW.below.os, hW.below.tape, hW.below.output, by simpa using hW.below.size, fun k hk => ?_⟩, fun q mi' hq => by simpa using hW.dom q mi' hq, fun q blk hq => ?_, hW.alias, hW.fam, hW.tidy, fun q mb2 hq => ?_, fun q q' mb2 mb3 mi1 mi2 h1 h2 e1 e2 hc => ?_⟩
  · show (w.heap.setIfInBounds mi.c _)[k]? = _
    rw [hne k (by omega)]; exact hW.below.block k hk
  · obtain ⟨mi', k1, k2⟩ := hW.blk q blk hq
    obtain ⟨c, t, f, r1, r2⟩ := k2.cells
    refine ⟨mi', k1, ⟨c, t, f, ?_, r2⟩⟩
    show (w.heap.setIfInBounds mi.c _)[mi'.c]? = _
    rw [hne _ (fun e => by rw [e, h1] at r1; exact hnc _ _ _ (Option.some.inj r1))]; exact r1
  · rcases hold q mb2 hq with ⟨rfl, rfl⟩ | ⟨hqb, hq'⟩
    · refine ⟨mi, hm, h3, o', ?_, hr⟩
      simp [hlt]
    · obtain ⟨mi', k1, k2⟩ := hW.mp q mb2 hq'
      obtain ⟨l', r1, r2⟩ := k2.obj
      refine ⟨mi', k1, k2.own, l', ?_, r2⟩
      show (w.heap.setIfInBounds mi.c _)[mi'.c]? = _
      rw [hne _ (fun e => hqb (hW.mpi q b mb2 mb mi' mi hq' hb k1 hm e))]; exact r1
  · obtain ⟨mb4, h4⟩ := hthere q mb2 h1
    obtain ⟨mb5, h5⟩ := hthere q' mb3 h2
    exact hW.mpi q q' mb4 mb5 mi1 mi2 h4 h5 e1 e2 hc
/-- A MAP CHANGED. -/
theorem WR.setMap (hW : WR w0 m σ w) {b : Pos} {mb mb' : MBlk} (hb : Tr.get b σ.maps = some mb) {mi : MI} (hm : m b = some mi) (hg : genuine mb.es = true) {es : Array MapEntry} (hr : ERs m mb'.es es.toList) (hk : ∀ x ∈ mb'.es, goodKey x.2.1 = true) {o : Obj} (ho : o = .map es mb'.clock) :
    WR w0 m ⟨σ.heap, σ.next, σ.fams, Tr.set b (some mb') σ.maps⟩ { w with heap := w.heap.setIfInBounds mi.c o } := by
  subst ho
  obtain ⟨l, h1, _, h3, _⟩ := hW.map hb hm hg
  exact hW.setObj hb hm ⟨_, h1⟩ h3 (.map es hr hk)
theorem goodKey_of {agg : Bool} {cs : List CK} {k : AVal} (h : keyShape agg cs k = true) : goodKey k = true := by
  cases k <;> first | rfl | cases h
theorem good_append {es : MEs} {c : Nat} {k v : AVal} (h : ∀ x ∈ es, goodKey x.2.1 = true) (hk : goodKey k = true) : ∀ x ∈ es ++ [(c, k, v)], goodKey x.2.1 = true := fun x hx => by
  rcases List.mem_append.1 hx with h1 | h1
  · exact h x h1
  · rw [List.mem_singleton] at h1; subst h1; exact hk
theorem good_set {es : MEs} {i c : Nat} {k v : AVal} (h : ∀ x ∈ es, goodKey x.2.1 = true) (hk : goodKey k = true) : ∀ x ∈ es.set i (c, k, v), goodKey x.2.1 = true := fun x hx => by
  rcases List.mem_or_eq_of_mem_set hx with h1 | h1
  · exact h x h1
  · subst h1; exact hk
theorem putMap_eq {b : Pos} {clock : Nat} {es : MEs} {v u : AVal} (h : putMap b clock es u σ = some (v, σ')) : v = u ∧ σ' = ⟨σ.heap, σ.next, σ.fams, Tr.set b (some ⟨clock, es⟩) σ.maps⟩ := by
  obtain ⟨hp, nx, fm, ms⟩ := σ
  unfold putMap at h
  simp only [Tr.setK_eq] at h
  cases h; exact ⟨rfl, rfl⟩
theorem putMapN_eq {b : Pos} {clock : Nat} {x : Bool × MEs} {v u : AVal} (h : putMapN b clock u σ x = some (v, σ')) : v = u ∧ σ' = ⟨σ.heap, σ.next, σ.fams, Tr.set b (some ⟨if x.1 then clock + 1 else clock, x.2⟩) σ.maps⟩ := by
  obtain ⟨n, es⟩ := x
  unfold putMapN at h
  cases n with
  | true => simp only [forceNat_eq] at h; exact putMap_eq h
  | false => exact putMap_eq h
theorem ERs.append {es es' : MEs} {l l' : List MapEntry} (h : ERs m es l) (k : ERs m es' l') : ERs m (es ++ es') (l ++ l') := by
  induction h with
  | nil => exact k
  | cons b k v e l r hb hk hv _ ih => exact .cons _ _ _ _ _ _ hb hk hv ih
theorem ERs.set {es : MEs} {l : List MapEntry} (h : ERs m es l) (i : Nat) {b : Nat} {k v : AVal} {e : MapEntry} (hb : e.born = b) (hk : V1 m k e.key) (hv : V1 m v e.val) : ERs m (es.set i (b, k, v)) (l.set i e) := by
  induction h generalizing i with
  | nil => exact .nil
  | cons b' k' v' e' l r hb' hk' hv' hs ih => cases i with
    | zero => exact .cons _ _ _ _ _ _ hb hk hv hs
    | succ i => exact .cons _ _ _ _ _ _ hb' hk' hv' (ih i)
theorem ERs.erase {es : MEs} {l : List MapEntry} (h : ERs m es l) (i : Nat) : ERs m (es.eraseIdx i) (l.eraseIdx i) := by
  induction h generalizing i with
  | nil => exact .nil
  | cons b' k' v' e' l r hb' hk' hv' hs ih => cases i with
    | zero => exact hs
    | succ i => exact .cons _ _ _ _ _ _ hb' hk' hv' (ih i)
theorem modify_set {α : Type} (es : Array α) (i : Nat) (f : α → α) {e : α} (h : es[i]? = some e) : (es.modify i f).toList = es.toList.set i (f e) := by
  apply List.ext_getElem?
  intro j
  rw [Array.getElem?_toList, Array.getElem?_modify, List.getElem?_set]
  by_cases hij : i = j
  · subst hij
    obtain ⟨h1, h2⟩ := Array.getElem?_eq_some_iff.1 h
    simp [h1, h2]
  · simp [hij]
theorem ERuns.same {r : Result Value} {x : Value} {w' : World} (hr : r = .ok x w') (hx : VR m v x) (hW : WR w0 m σ' w') (hn : σ'.next = σ.next) : ERuns w0 w m σ r v σ' :=
  ⟨x, w', m, hr, hx, m.le_refl, fun _ _ => rfl, hW, by rw [hn]; exact Nat.le_refl _⟩
theorem newMB_eq {clock : Nat} {es : MEs} {mk : Pos → AVal} (h : newMB clock es mk σ = some (v, σ')) : ∃ nx, σ.next.next = some nx ∧ v = mk σ.next ∧ σ' = ⟨σ.heap, nx, σ.fams, Tr.set σ.next (some ⟨clock, es⟩) σ.maps⟩ := by
  obtain ⟨hp, nx, fm, ms⟩ := σ
  unfold newMB at h
  simp only [Pos.nextK_eq] at h
  split at h
  · rename_i q hq
    rw [Tr.setK_eq] at h
    cases h
    exact ⟨q, hq, rfl, rfl⟩
  · cases h
/-- A NEW MAP, OR A NEW RANGE OVER ONE. -/
theorem newMB_sim {clock : Nat} {es : MEs} {mk : Pos → AVal} (hW : WR w0 m σ w) {r : Result Value} {x : Value} {o : Obj} (hrun : r = .ok x { w with heap := w.heap.push o })
    (ho : ∀ m' : Mp, m.le m' → MO m' ⟨clock, es⟩ ⟨w.heap.size, 0, 0⟩ o) (hx : ∀ m' : Mp, m.le m' → m' σ.next = some ⟨w.heap.size, 0, 0⟩ → VR m' (mk σ.next) x) (h : newMB clock es mk σ = some (v, σ')) : ERuns w0 w m σ r v σ' := by
  obtain ⟨nx, hnx, rfl, rfl⟩ := newMB_eq h
  have hlt := next_lt hnx
  have hfresh := hW.fresh (Nat.le_refl σ.next.nat)
  have hle := upd_le hfresh ⟨w.heap.size, 0, 0⟩
  have hpush : ∀ k, k < w.heap.size → (w.heap.push o)[k]? = w.heap[k]? := fun k hk => by rw [Array.getElem?_push, if_neg (by omega)]
  have hsz := hW.below.size
  have hmap : ∀ b mb, Tr.get b (Tr.set σ.next (some ⟨clock, es⟩) σ.maps) = some mb → b = σ.next ∧ mb = ⟨clock, es⟩ ∨ b ≠ σ.next ∧ Tr.get b σ.maps = some mb := fun b mb h => by
    rw [Tr.get_set] at h
    by_cases e : b = σ.next
    · rw [if_pos e] at h; cases h; exact .inl ⟨e, rfl⟩
    · rw [if_neg e] at h; exact .inr ⟨e, h⟩
  refine ⟨_, _, upd m σ.next ⟨w.heap.size, 0, 0⟩, hrun, hx _ hle (upd_same _ _ _), hle, fun b hb => upd_ne m (fun e => by subst e; omega) _, ?_, Nat.le_of_lt hlt⟩
  refine ⟨⟨hW.below.os, hW.below.tape, hW.below.output, by simp; omega, fun k hk => ?_⟩, fun q mi hq => ?_, fun q blk hq => ?_, fun q q' bq bq' mi1 mi2 hq hq' e1 e2 hne hc => ?_, hW.fam, fun p hp => ?_, fun q mb hq => ?_, fun q q' mb2 mb3 mi1 mi2 h1 h2 e1 e2 hc => ?_⟩
  · show (w.heap.push _)[k]? = _
    rw [hpush k (by omega)]; exact hW.below.block k hk
  · by_cases e : q = σ.next
    · subst e; rw [upd_same] at hq; cases hq; exact ⟨hlt, by simp⟩
    · rw [upd_ne m e] at hq
      have := hW.dom q mi hq
      exact ⟨by simp only; omega, by simp; omega⟩
  · obtain ⟨mi, k1, k2⟩ := hW.blk q blk hq
    refine ⟨mi, hle _ _ k1, ?_⟩
    obtain ⟨c, t, f, r1, r2, r3, r4⟩ := k2.cells
    have := (hW.dom q mi k1).2
    refine ⟨c, t, f, by show (w.heap.push _)[mi.c]? = _; rw [hpush _ this]; exact r1, r2, ?_, r4⟩
    intro i v hv
    obtain ⟨x, hx, hs⟩ := r3 i v hv
    exact ⟨x, hx, hs.mono hle⟩
  · obtain ⟨mi3, k1, _⟩ := hW.blk q bq hq
    obtain ⟨mi4, k2, _⟩ := hW.blk q' bq' hq'
    rw [hle _ _ k1] at e1; cases e1
    rw [hle _ _ k2] at e2; cases e2
    exact hW.alias q q' bq bq' _ _ hq hq' k1 k2 hne hc
  · exact hW.tidy p (by simp only at hp; omega)
  · rcases hmap q mb hq with ⟨rfl, rfl⟩ | ⟨hne, hq'⟩
    · exact ⟨_, upd_same _ _ _, hsz, o, by simp, ho _ hle⟩
    · obtain ⟨mi, k1, k2⟩ := hW.mp q mb hq'
      have hl := (hW.dom q mi k1).2
      obtain ⟨o2, r1, r2⟩ := k2.obj
      exact ⟨mi, hle _ _ k1, k2.own, o2, by show (w.heap.push _)[mi.c]? = _; rw [hpush _ hl]; exact r1, r2.mono hle⟩
  · rcases hmap q mb2 h1 with ⟨rfl, rfl⟩ | ⟨hne, h1'⟩
    · rcases hmap q' mb3 h2 with ⟨rfl, rfl⟩ | ⟨hne', h2'⟩
      · rfl
      · rw [upd_same] at e1; cases e1
        rw [upd_ne m hne'] at e2
        have := (hW.dom q' mi2 e2).2
        simp only at hc; omega
    · rcases hmap q' mb3 h2 with ⟨rfl, rfl⟩ | ⟨hne', h2'⟩
      · rw [upd_same] at e2; cases e2
        rw [upd_ne m hne] at e1
        have := (hW.dom q mi1 e1).2
        simp only at hc; omega
      · rw [upd_ne m hne] at e1
        rw [upd_ne m hne'] at e2
        exact hW.mpi q q' mb2 mb3 mi1 mi2 h1' h2' e1 e2 hc
theorem newMap_sim {t k e : TypeId} (hu : P.underlying t = some (.map k e)) (hW : WR w0 m σ w) {r : Option Value} (hr : r = none ∨ ∃ q n, r = some (.int q n)) (h : newMap σ = some (v, σ')) :
    ERuns w0 w m σ ((Instr.makeMap t r).run P w) v σ' := by
  refine newMB_sim hW (o := .map #[] 0) (x := .map (some w.heap.size)) ?_ (fun m' _ => .map #[] .nil (fun x hx => by cases hx)) (fun m' _ hm => (SR.map _ _ hm).vr) h
  rcases hr with rfl | ⟨q, n, rfl⟩
  · rfl
  · simp [Instr.makeMap, run_underlying hu, asInt, asIntOf]
theorem rangeM_sim {t k e : TypeId} {x : AVal} {X : Value} (hu : P.underlying t = some (.map k e)) (hW : WR w0 m σ w) (hx : VR m x X) (h : rangeM x σ = some (v, σ')) : ERuns w0 w m σ ((Instr.range t X).run P w) v σ' := by
  unfold rangeM at h
  split at h
  · rw [hx.nmap]
    refine newMB_sim hW (o := .mapIter none 0 #[] 0) (x := .pointer (some ⟨w.heap.size, 0, none⟩)) ?_ (fun m' _ => .none 0 [] rfl rfl) (fun m' _ hm => (SR.ptr _ 0 _ hm).vr) h
    simp [Instr.range, run_underlying hu]
  · rename_i b
    obtain ⟨mi, hmi, rfl⟩ := hx.map
    obtain ⟨⟨clock, es⟩, hb, h⟩ := andThen_eq.1 h
    simp only at h
    obtain ⟨hg, h⟩ := test_eq.1 h
    obtain ⟨l, q1, q2, q3, q4⟩ := hW.map hb hmi hg
    refine newMB_sim hW (o := .mapIter (some mi.c) clock #[] clock) (x := .pointer (some ⟨w.heap.size, 0, none⟩)) ?_ (fun m' hle => .iter clock b mi [] rfl (hle b mi hmi) rfl) (fun m' _ hm => (SR.ptr _ 0 _ hm).vr) h
    simp [Instr.range, run_underlying hu, getObj_map q1]
  · cases h
theorem nextM_sim {ty : TypeId} {x : AVal} {X : Value} (hW : WR w0 m σ w) (hx : VR m x X) (h : nextM x σ = some (v, σ')) : ERuns w0 w m σ ((Instr.next X false ty).run P w) v σ' := by
  unfold nextM at h
  split at h
  · rename_i p o
    obtain ⟨mi, hmi, rfl⟩ := hx.ptr
    obtain ⟨ho, h⟩ := test_eq.1 h
    have ho : o = 0 := by cases o <;> first | rfl | cases ho
    subst ho
    obtain ⟨⟨since, es⟩, hb, h⟩ := andThen_eq.1 h
    simp only at h
    obtain ⟨⟨last, src, seen⟩, hi, h⟩ := andThen_eq.1 h
    simp only at h
    split at h
    · obtain ⟨hbase, hobj⟩ := hW.iter hb hmi hi (.inl rfl)
      cases h
      rcases hobj with ⟨_, hobj⟩ | ⟨c, _, _, hc, _⟩
      · refine ERuns.same (x := .tuple #[.bool false]) ?_ (.tup _ _ (.cons _ _ _ _ (.one _ _ (.bool _)) .nil)) hW rfl
        have gi : (getObj mi.c).run P w = .ok (.mapIter none 0 #[] 0) w := by simp [getObj, Sem.run, hobj]
        rw [hbase]
        simp [Instr.next, gi]
      · cases hc
    · rename_i b
      obtain ⟨hbase, hobj⟩ := hW.iter hb hmi hi (.inr ⟨b, rfl⟩)
      rcases hobj with ⟨h0, _⟩ | ⟨c, mj, ss, hc, hmj, hss, hobj⟩
      · cases h0
      cases hc
      have gi : (getObj mi.c).run P w = .ok (.mapIter (some mj.c) since ss.toArray last) w := by simp [getObj, Sem.run, hobj]
      obtain ⟨⟨clock, es2⟩, hb2, h⟩ := andThen_eq.1 h
      unfold nextOf at h
      simp only at h
      obtain ⟨hg, h⟩ := test_eq.1 h
      obtain ⟨l, q1, q2, q3, q4⟩ := hW.map hb2 hmj hg
      have fin : ERuns w0 w m σ (.ok (.tuple #[.bool false]) w) (.tup [.bool false]) σ := ERuns.same rfl (.tup _ _ (.cons _ _ _ _ (.one _ _ (.bool _)) .nil)) hW rfl
      obtain ⟨l⟩ := l
      simp only at q1 q2
      split at h
      · have hs0 : ss = [] := by cases ss with | nil => rfl | cons _ _ => cases hss
        subst hs0
        split at h
        · cases h
          cases q2
          have : (Instr.next (.pointer (some ⟨mi.c, mi.base + 0, none⟩)) false ty).run P w = .ok (.tuple #[.bool false]) w := by
            rw [hbase]
            simp [Instr.next, gi, getObj_map q1, Question.forced]
          rw [this]; exact fin
        · rename_i born k u r _
          split at h
          · obtain ⟨h1, h⟩ := test_eq.1 h
            obtain ⟨h2, h⟩ := test_eq.1 h
            obtain ⟨rfl, rfl⟩ := putMap_eq h
            cases q2 with
            | cons _ _ _ e _ r2 hbn hk hv hs =>
              cases hs
              have hlt : born < since := Nat.le_of_ble_eq_true h1
              have hbn : e.born = born := hbn
              have hge : ¬ since ≤ born := by omega
              refine ERuns.same (x := .tuple #[.bool true, e.key, e.val]) ?_ (.tup _ _ (.cons _ _ _ _ (.one _ _ (.bool _)) (.cons _ _ _ _ hk (.cons _ _ _ _ hv .nil)))) (hW.setObj hb hmi ⟨_, hobj⟩ ?_ (.iter (mb := ⟨since, [(clock, .map b, .tup [.int .i64 (.ofNat born)])]⟩) clock b mj [born] hbase hmj rfl)) rfl
              · rw [hbase]
                have hso : ∀ o, (setObj mi.c o).run P w = .ok () { w with heap := w.heap.setIfInBounds mi.c o } := fun o => by simp [setObj, Sem.run, hobj]
                simp [Instr.next, gi, getObj_map q1, Question.forced, hso, hbn, hlt, hge]
              · obtain ⟨mi', k1, k2⟩ := hW.mp p _ hb
                rw [hmi] at k1; cases k1; exact k2.own
          · cases h
      · rename_i s r
        split at h
        · rename_i q n
          split at h
          · cases h
          · rename_i born k u r'
            split at h
            · obtain ⟨h1, h⟩ := test_eq.1 h
              obtain ⟨h2, h⟩ := test_eq.1 h
              cases h
              cases q2 with
              | cons _ _ _ e _ r2 hbn hk hv hs =>
                cases hs
                cases ss with
                | nil => cases hss
                | cons t ss =>
                  simp only [List.map_cons, List.cons.injEq] at hss
                  obtain ⟨hss1, _⟩ := hss
                  cases hss1
                  rw [ieq_iff] at h1
                  have ht : born = t := by have : (born : Int) = (t : Int) := h1; omega
                  subst ht
                  have hlt : born < last := Nat.le_of_ble_eq_true h2
                  have : (Instr.next (.pointer (some ⟨mi.c, mi.base + 0, none⟩)) false ty).run P w = .ok (.tuple #[.bool false]) w := by
                    rw [hbase]
                    have hbn : e.born = born := hbn
                    have hn : ¬ (last ≤ born) := by omega
                    simp [Instr.next, gi, getObj_map q1, Question.forced, hbn, hn]
                  rw [this]; exact fin
            · cases h
        · cases h
    · cases h
  · cases h
theorem setM_sim {t kt e : TypeId} {cs : List CK} {x k u : AVal} {X K U : Value} (hu : P.underlying t = some (.map kt e)) (hf : flat P 20 kt = some cs) (hW : WR w0 m σ w) (hx : VR m x X) (hk : VR m k K) (hv : VR m u U)
    (h : setM (isAggB P kt) cs x k u σ = some (v, σ')) : ∃ w', (Instr.mapUpdate t X K U).run P w = .ok () w' ∧ v = .undef ∧ WR w0 m σ' w' ∧ σ'.next = σ.next := by
  unfold setM at h
  split at h
  · rename_i b
    obtain ⟨mi, hmi, rfl⟩ := hx.map
    obtain ⟨⟨clock, es⟩, hb, h⟩ := andThen_eq.1 h
    simp only at h
    obtain ⟨hg, h⟩ := test_eq.1 h
    obtain ⟨hs, h⟩ := test_eq.1 h
    obtain ⟨h1, h⟩ := test_eq.1 h
    rw [force_eq, force_eq] at h
    obtain ⟨⟨n, es'⟩, hp, h⟩ := andThen_eq.1 h
    obtain ⟨rfl, rfl⟩ := putMapN_eq h
    obtain ⟨hk1, hck⟩ := keyShape_ok (w := w) hf hs hk
    have hv1 : V1 m u U := by
      cases hv with
      | v1 _ _ h => exact h
      | tup _ _ _ => cases h1
    obtain ⟨l, q1, q2, q3, q4⟩ := hW.map hb hmi hg
    obtain ⟨o, i1, i2⟩ := mput_ix hp
    have hfk := findKey_ix (w := w) hf hk1 q2 i1
    cases o with
    | none =>
      obtain ⟨rfl, rfl⟩ := i2
      refine ⟨_, ?_, rfl, hW.setMap (mb' := ⟨clock + 1, es ++ [(clock, k, u)]⟩) hb hmi hg (es := l.push { key := K, val := U, born := clock }) ?_ (good_append q4 (goodKey_of hs)) rfl, rfl⟩
      · simp only [Instr.mapUpdate, Sem.run_bind, run_underlying hu, Result.andThen_ok, getObj_map q1, hck, hfk, foundAt, Option.bind_none]
        rw [heap_map q1]
      · simpa using q2.append (.cons clock k u { key := K, val := U, born := clock } [] [] rfl hk1 hv1 .nil)
    | some i =>
      obtain ⟨rfl, b', k', v', g1, rfl, g3⟩ := i2
      obtain ⟨en, e1, e2, e3, e4⟩ := q2.get g1
      have hen : l[i]? = some en := by rw [← Array.getElem?_toList]; exact e1
      have hst : (Instr.keyThatStays (((l[i]?).map (·.key)).getD K) K).run P w = .ok K w := by
        rw [hen]
        exact keyStays (keyEq_bits g3 hk1 e3)
      refine ⟨_, ?_, rfl, hW.setMap (mb' := ⟨clock, es.set i (b', k, u)⟩) hb hmi hg (es := l.modify i fun e => { e with key := K, val := U }) ?_ (good_set q4 (goodKey_of hs)) rfl, rfl⟩
      · simp only [Instr.mapUpdate, Sem.run_bind, run_underlying hu, Result.andThen_ok, getObj_map q1, hck, hfk, foundAt, Option.bind_some, e1, Option.map_some, Nat.zero_add, hst]
        rw [heap_map q1]
      · rw [modify_set _ _ _ hen]
        exact q2.set i e2 hk1 hv1
  · cases h
theorem delM_sim {t t2 ty kt e : TypeId} {cs : List CK} {x k : AVal} {X K : Value} (hu : P.underlying t = some (.map kt e)) (hf : flat P 20 kt = some cs) (hW : WR w0 m σ w) (hx : VR m x X) (hk : VR m k K)
    (h : delM (isAggB P kt) cs x k σ = some (v, σ')) : ERuns w0 w m σ ((Builtin.delete_ #[t, t2] ty #[X, K]).run P w) v σ' := by
  unfold delM at h
  obtain ⟨hs, h⟩ := test_eq.1 h
  obtain ⟨hk1, hck⟩ := keyShape_ok (w := w) hf hs hk
  split at h
  · cases h
    rw [hx.nmap]
    refine ERuns.same (x := .tuple #[]) ?_ .undef hW rfl
    simp [Builtin.delete_, run_underlying hu, hck]
  · rename_i b
    obtain ⟨mi, hmi, rfl⟩ := hx.map
    obtain ⟨⟨clock, es⟩, hb, h⟩ := andThen_eq.1 h
    simp only at h
    obtain ⟨hg, h⟩ := test_eq.1 h
    obtain ⟨es', hr, h⟩ := andThen_eq.1 h
    obtain ⟨rfl, rfl⟩ := putMap_eq h
    obtain ⟨l, q1, q2, q3, q4⟩ := hW.map hb hmi hg
    obtain ⟨o, i1, i2⟩ := mrem_ix hr
    have hfk := findKey_ix (w := w) hf hk1 q2 i1
    cases o with
    | none =>
      have i2 : es' = es := i2
      subst i2
      refine ERuns.same (x := .tuple #[]) ?_ .undef (hW.setMap (mb' := ⟨clock, es'⟩) hb hmi hg q2 q4 rfl) rfl
      simp only [Builtin.delete_, Sem.run_bind, List.getElem?_toArray, List.getElem?_cons_zero, List.getElem?_cons_succ, run_underlying hu, Result.andThen_ok, getObj_map q1, hck, hfk, foundAt, Option.bind_none]
      rw [heap_map q1]
      rfl
    | some i =>
      obtain ⟨hi, rfl⟩ := i2
      have hl := q2.length
      simp only [Array.length_toList] at hl
      have hil : i < l.size := by omega
      have e1 : l.toList[i]? = some l[i] := by simp [hil]
      refine ERuns.same (x := .tuple #[]) ?_ .undef (hW.setMap (mb' := ⟨clock, es.eraseIdx i⟩) hb hmi hg (es := l.eraseIdxIfInBounds i) ?_ (fun x hx => q4 x (List.mem_of_mem_eraseIdx hx)) rfl) rfl
      · simp only [Builtin.delete_, Sem.run_bind, List.getElem?_toArray, List.getElem?_cons_zero, List.getElem?_cons_succ, run_underlying hu, Result.andThen_ok, getObj_map q1, hck, hfk, foundAt, Option.bind_some, e1, Option.map_some, Nat.zero_add]
        rw [heap_map q1]
        rfl
      · have : (l.eraseIdxIfInBounds i).toList = l.toList.eraseIdx i := by simp [Array.eraseIdxIfInBounds, hil]
        rw [this]
        exact q2.erase i
  · cases h
theorem WR.sameMaps {ms : Tr MBlk} (hW : WR w0 m ⟨σ.heap, σ.next, σ.fams, ms⟩ w) (h : ∀ q, Tr.get q ms = Tr.get q σ.maps) : WR w0 m σ w :=
  ⟨hW.below, hW.dom, hW.blk, hW.alias, hW.fam, hW.tidy, fun b mb hb => hW.mp b mb (by rw [← hb]; exact h b), fun b b' mb mb' mi mi' h1 h2 => hW.mpi b b' mb mb' mi mi' (by rw [← h1]; exact h b) (by rw [← h2]; exact h b')⟩
theorem entM_sim {t kt e : TypeId} {cs : List CK} {z x k : AVal} {X K : Value} (hu : P.underlying t = some (.map kt e)) (hf : flat P 20 kt = some cs) (hz : czeroV P e = some z) (hW : WR w0 m σ w) (hx : VR m x X) (hk : VR m k K)
    (h : entM (isAggB P kt) cs z x k σ = some (v, σ')) : ERuns w0 w m σ ((Instr.mapEntry t X K).run P w) v σ' := by
  unfold entM at h
  split at h
  · rename_i b
    obtain ⟨mi, hmi, rfl⟩ := hx.map
    obtain ⟨⟨clock, es⟩, hb, h⟩ := andThen_eq.1 h
    simp only at h
    obtain ⟨hg, h⟩ := test_eq.1 h
    obtain ⟨hs, h⟩ := test_eq.1 h
    obtain ⟨hk1, hck⟩ := keyShape_ok (w := w) hf hs hk
    obtain ⟨l, q1, q2, q3, q4⟩ := hW.map hb hmi hg
    obtain ⟨r, hr, h⟩ := andThen_eq.1 h
    obtain ⟨o, i1, i2⟩ := mget_ix hr
    have hfk := findKey_ix (w := w) hf hk1 q2 i1
    cases o with
    | none =>
      have i2 : r = none := i2
      subst i2
      simp only at h
      unfold entNew at h
      rw [force_eq] at h
      obtain ⟨⟨n, es'⟩, hp, h⟩ := andThen_eq.1 h
      obtain ⟨rfl, rfl⟩ := putMapN_eq h
      obtain ⟨o', j1, j2⟩ := mput_ix hp
      rw [i1] at j1; cases j1
      obtain ⟨rfl, rfl⟩ := j2
      obtain ⟨zv, hz1, hz2⟩ := czeroV_run (P := P) (w := w) (m := m) hz
      refine ERuns.same ?_ (.tup _ #[zv, goInt clock] (.cons _ _ _ _ hz2 (.cons _ _ _ _ (.one _ _ (.int _ _)) .nil))) (hW.setMap (mb' := ⟨clock + 1, es ++ [(clock, k, z)]⟩) hb hmi hg (es := l.push { key := K, val := zv, born := clock }) ?_ (good_append q4 (goodKey_of hs)) rfl) rfl
      · simp only [Instr.mapEntry, Sem.run_bind, run_underlying hu, Result.andThen_ok, getObj_map q1, hck, hfk, foundAt, Option.bind_none, hz1]
        rw [heap_map q1]
        rfl
      · simpa using q2.append (.cons clock k z { key := K, val := zv, born := clock } [] [] rfl hk1 hz2 .nil)
    | some i =>
      obtain ⟨b', k', v', g1, rfl, g3⟩ := i2
      cases h
      obtain ⟨en, e1, e2, e3, e4⟩ := q2.get g1
      have hen : l[i]? = some en := by rw [← Array.getElem?_toList]; exact e1
      have hst : (Instr.keyThatStays (((l[i]?).map (·.key)).getD K) K).run P w = .ok K w := by
        rw [hen]
        exact keyStays (keyEq_bits g3 hk1 e3)
      have hk' := keyEq_same g3
      have hset : es.set i (b', k', v') = es := by
        apply List.ext_getElem?
        intro j
        rw [List.getElem?_set]
        by_cases hij : i = j
        · subst hij
          have hlt := (List.getElem?_eq_some_iff.1 g1).1
          rw [if_pos rfl, if_pos hlt, g1]
        · rw [if_neg hij]
      have hW' := hW.setMap (mb' := ⟨clock, es⟩) hb hmi hg (es := l.modify i fun e => { e with key := K }) (o := .map (l.modify i fun e => { e with key := K }) clock) (by
        rw [modify_set _ _ _ hen]
        have := q2.set i (b := b') (k := k') (v := v') (e := { en with key := K }) e2 (by rw [← hk']; exact hk1) e4
        rw [hset] at this; exact this) q4 rfl
      have hms : (⟨σ.heap, σ.next, σ.fams, Tr.set b (some ⟨clock, es⟩) σ.maps⟩ : S) = ⟨σ.heap, σ.next, σ.fams, Tr.set b (some ⟨clock, es⟩) σ.maps⟩ := rfl
      refine ERuns.same ?_ (.tup _ #[en.val, goInt en.born] (.cons _ _ _ _ e4 (.cons _ _ _ _ (.one _ _ (by rw [e2]; exact .int _ _)) .nil))) (hW'.sameMaps (fun q => ?_)) rfl
      · simp only [Instr.mapEntry, Sem.run_bind, run_underlying hu, Result.andThen_ok, getObj_map q1, hck, hfk, foundAt, Option.bind_some, e1, Option.map_some, Nat.zero_add, hst]
        rw [heap_map q1]
        simp only [Result.andThen_ok, Sem.run_pure, hen, Option.map_some, Option.getD_some]
      · rw [Tr.get_set]
        by_cases e : q = b
        · rw [if_pos e, e, hb]
        · rw [if_neg e]
  · cases h
theorem mborn_ix {n : Int} {u : AVal} : ∀ {es es' : MEs} {l : List MapEntry}, ERs m es l → mborn n u es = some es' → ∃ i, l.findIdx? (fun e => (e.born : Int) == n) = some i ∧ ∃ b k v, es[i]? = some (b, k, v) ∧ es' = es.set i (b, k, u)
  | [], es', l, _, h => by cases h
  | (b, k, v) :: es, es', l, hr, h => by
    cases hr with
    | cons _ _ _ e _ r hb hk hv hs =>
      unfold mborn at h
      split at h
      · rename_i he
        cases h
        refine ⟨0, ?_, b, k, v, rfl, rfl⟩
        rw [ieq_iff] at he
        simp only [List.findIdx?_cons]
        rw [hb, if_pos (by rw [beq_iff_eq]; exact he)]
      · rename_i he
        obtain ⟨es2, h1, h⟩ := andThen_eq.1 h
        cases h
        obtain ⟨i, g1, b2, k2, v2, g2, g3⟩ := mborn_ix hs h1
        refine ⟨i + 1, ?_, b2, k2, v2, by simpa using g2, by rw [g3]; rfl⟩
        have he : ¬ ((b : Int) = n) := fun e => by
          have : ieq (.ofNat b) n = true := ieq_iff.2 e
          rw [this] at he; cases he
        simp only [List.findIdx?_cons]
        rw [hb, if_neg (by rw [beq_iff_eq]; exact he), g1]; rfl
theorem stampM_sim {t : TypeId} {x s u : AVal} {X S' U : Value} (hW : WR w0 m σ w) (hx : VR m x X) (hs : VR m s S') (hv : VR m u U) (h : stampM x s u σ = some (v, σ')) :
    ∃ w', (Instr.entryStore t X S' U).run P w = .ok () w' ∧ v = .undef ∧ WR w0 m σ' w' ∧ σ'.next = σ.next := by
  unfold stampM at h
  split at h
  · rename_i b
    obtain ⟨mi, hmi, rfl⟩ := hx.map
    obtain ⟨⟨clock, es⟩, hb, h⟩ := andThen_eq.1 h
    simp only at h
    split at h
    · rename_i q n _
      have hs := hs.int
      subst hs
      obtain ⟨hg, h⟩ := test_eq.1 h
      obtain ⟨h1, h⟩ := test_eq.1 h
      rw [force_eq] at h
      obtain ⟨es', hp, h⟩ := andThen_eq.1 h
      obtain ⟨rfl, rfl⟩ := putMap_eq h
      have hv1 : V1 m u U := by
        cases hv with
        | v1 _ _ h => exact h
        | tup _ _ _ => cases h1
      obtain ⟨l, q1, q2, q3, q4⟩ := hW.map hb hmi hg
      obtain ⟨i, g1, b', k', v', g2, rfl⟩ := mborn_ix q2 hp
      obtain ⟨en, e1, e2, e3, e4⟩ := q2.get g2
      have hen : l[i]? = some en := by rw [← Array.getElem?_toList]; exact e1
      have hfi : l.findIdx? (fun e => (e.born : Int) == n) = some i := by
        rw [← g1]; cases l; simp
      refine ⟨_, ?_, rfl, hW.setMap (mb' := ⟨clock, es.set i (b', k', u)⟩) hb hmi hg (es := l.modify i fun e => { e with val := U }) ?_ (good_set q4 (q4 _ (List.mem_of_getElem? g2))) rfl, rfl⟩
      · simp only [Instr.entryStore, Sem.run_bind, getObj_map q1, Result.andThen_ok, asInt, asIntOf, Sem.run_pure, hfi]
        rw [heap_map q1]
      · rw [modify_set _ _ _ hen]
        exact q2.set i e2 e3 hv1
    · cases h
  · cases h
theorem clr_sim {t ty e : TypeId} {z : List AVal} {x : AVal} {X : Value} (hu : P.underlying t = some (.slice e)) (hz : czero P e = some z) (hW : WR w0 m σ w) (hx : VR m x X) (h : clrA z x σ = some (v, σ')) :
    ERuns w0 w m σ ((Builtin.clear_ #[t] ty #[X]).run P w) v σ' := by
  obtain ⟨zv, hz1, hzs, _⟩ := czero_run (P := P) (w := w) (m := m) hz
  have key : ∀ b o len cap mi a, m b = some mi → clrTo b o len z σ = some (v, σ') → X = .slice (some a) len cap → (len = 0 ∨ a = ⟨mi.c, mi.base + o, none⟩) → ERuns w0 w m σ ((Builtin.clear_ #[t] ty #[X]).run P w) v σ' := by
    intro b o len cap mi a hm hc hX ha
    subst hX
    cases len with
    | zero =>
      cases hc
      refine ERuns.same (x := .tuple #[]) ?_ .undef hW rfl
      simp [Builtin.clear_, run_underlying hu]
    | succ n =>
      have ha := ha.resolve_left (by simp)
      subst ha
      unfold clrTo at hc
      simp only [forceNat_eq, Nat.succ_eq_add_one] at hc
      obtain ⟨σ1, h1, hc⟩ := andThen_eq.1 hc
      cases hc
      have hsz : zv.cells.size = z.length := by simpa using hzs.length
      have hrel : SRs m (repN (n + 1) z) (Builtin.zeroCells zv.cells (n + 1)).toList := by
        by_cases h0 : z.length = 0
        · have hz0 : z = [] := List.length_eq_zero_iff.1 h0
          have e1 : repN (n + 1) z = [] := by
            rw [hz0]
            have : ∀ n, repN n ([] : List AVal) = [] := by intro n; induction n with
              | zero => rfl
              | succ n ih => rw [repN, ih]; rfl
            exact this _
          have e2 : (Builtin.zeroCells zv.cells (n + 1)).toList = [] := by
            apply List.length_eq_zero_iff.1
            rw [Array.length_toList, size_zeroCells, hsz, h0, Nat.mul_zero]
          rw [e1, e2]; exact .nil
        · have := zeros_rel (n := n + 1) hzs rfl (Nat.pos_of_ne_zero h0)
          rw [← hsz] at this
          exact this
      obtain ⟨g1, g2, g3⟩ := hW.put h1 hm hrel
      refine ERuns.same (x := .tuple #[]) ?_ .undef g2 g3
      simp only [Builtin.clear_, Sem.run_bind, List.getElem?_toArray, List.getElem?_cons_zero, run_underlying hu, Result.andThen_ok, hz1, g1 P]
      rfl
  unfold clrA at h
  split at h
  · cases h
    rw [hx.nsl]
    refine ERuns.same (x := .tuple #[]) ?_ .undef hW rfl
    simp [Builtin.clear_, run_underlying hu]
  · obtain ⟨mi, hm, hle, hX⟩ := hx.sl
    exact key _ _ _ _ mi _ hm h hX (.inr rfl)
  · obtain ⟨mi, off, cap, hm, hle, ho, _, hX⟩ := hx.slu
    refine key _ _ _ _ mi _ hm h hX ?_
    rcases ho with rfl | ⟨h0, _⟩
    · exact .inr rfl
    · exact .inl h0
  · cases h
end
end Go.Am
