/-
  Appending. Conditions: none.
-/
import Derived.Test.YthnjfpfcnpefaaaGreatK12
namespace Go.Am
open Go.RowKit (Below)
section
variable {P : Program} {w0 w : World} {m : Mp} {σ : S}
theorem WR.fresh (hW : WR w0 m σ w) {p : Pos} (hp : σ.next.nat ≤ p.nat) : m p = none := by
  cases h : m p with
  | none => rfl
  | some mi => have := (hW.dom p mi h).1; omega
theorem WR.fresh' (hW : WR w0 m σ w) {p : Pos} (hp : σ.next.nat ≤ p.nat) : Tr.get p σ.heap = none := by
  cases h : Tr.get p σ.heap with
  | none => rfl
  | some blk => obtain ⟨mi, h1, _⟩ := hW.blk p blk h; rw [hW.fresh hp] at h1; cases h1
/-- Blocks given up. -/
theorem WR.fewer (hW : WR w0 m σ w) {h : Tr Blk} (hh : ∀ q bq, Tr.get q h = some bq → Tr.get q σ.heap = some bq) : WR w0 m ⟨h, σ.next, σ.fams, σ.maps⟩ w :=
  ⟨hW.below, hW.dom, fun b blk hb => hW.blk b blk (hh _ _ hb), fun b b' blk blk' mi mi' h1 h2 => hW.alias b b' blk blk' mi mi' (hh _ _ h1) (hh _ _ h2), fun b blk root vb hb => hW.fam b blk root vb (hh _ _ hb), hW.tidy.sub rfl rfl fun q bq hq => ⟨bq, hh q bq hq, rfl⟩, hW.mp, hW.mpi⟩
/-- A MEMBER OF A FAMILY, GROWN IN ITS PLACE. -/
theorem WR.share (hW : WR w0 m σ w) {b p nx : Pos} {blk : Blk} {root : Pos} {vb o k esz fr : Nat} {mi : MI} (hfr : fr ≤ vb + o + k) (hb : Tr.get b σ.heap = some blk) (hk : blk.kind = .fam root vb) (hm : m b = some mi) (hp : σ.next.nat ≤ p.nat) (hnx : p.nat < nx.nat)
    {old new : List AVal} {xs ys : List Value} (ho : SRs m old xs) (hn : SRs m new ys) (hxl : xs.length = k) (hxs : ∀ i x, xs[i]? = some x → w.cell? ⟨mi.c, mi.base + o + i, none⟩ = some x) (hfit : mi.base + o + k + ys.length ≤ mi.size) :
    (∀ P, (storeCells ⟨mi.c, mi.base + o + k, none⟩ ys).run P w = .ok () (w.setCells mi.c (mi.base + o + k) ys)) ∧
    WR w0 (upd m p ⟨mi.c, mi.base + o, mi.size⟩) (S.layAt ⟨kill fr p (famOf root σ.fams) σ.heap, σ.next, σ.fams, σ.maps⟩ p ⟨esz, .fam root (vb + o), old ++ new⟩ nx) (w.setCells mi.c (mi.base + o + k) ys) := by
  have hB := hW.get hb hm
  have hro : blk.kind ≠ .ro := by rw [hk]; simp
  obtain ⟨cells, ty, frz, h1, h2, h3, h4⟩ := hB.cells
  have h4' := h4.resolve_left hro
  have hle := upd_le (hW.fresh hp) ⟨mi.c, mi.base + o, mi.size⟩
  have hTk : Tidy ⟨kill fr p (famOf root σ.fams) σ.heap, σ.next, σ.fams, σ.maps⟩ := hW.tidy.sub rfl rfl fun q bq hq => ⟨bq, (get_kill hq).1, rfl⟩
  have hrn : root.nat < nx.nat := by
    by_cases h : root.nat < σ.next.nat
    · omega
    · exact absurd rfl ((hW.tidy root (by omega)).2.2 b blk root vb hb hk)
  have hcell : ∃ cells ty frz, w.heap[mi.c]? = some (.cells cells ty frz) ∧ mi.base + o + k + ys.length ≤ cells.size := ⟨cells, ty, frz, h1, by omega⟩
  obtain ⟨cells', e1, e2, e3, e4⟩ := setCells_heap ys mi.c (mi.base + o + k) w cells ty frz h1 (by omega)
  have hlive : ∀ q bq, Tr.get q (kill fr p (famOf root σ.fams) σ.heap) = some bq → Tr.get q σ.heap = some bq ∧ ∀ mi', m q = some mi' → mi'.c ≠ mi.c ∨ (mi'.base + bq.cells.length ≤ mi.base + o + k ∧ ∃ vq, bq.kind = .fam root vq ∧ mi'.base + vb = mi.base + vq) := by
    intro q bq hq
    obtain ⟨g1, g2⟩ := get_kill hq
    have hqp : q ≠ p := fun e => by subst e; rw [hW.fresh' hp] at g1; cases g1
    refine ⟨g1, fun mi' hm' => ?_⟩
    by_cases hc : mi'.c = mi.c
    · right
      by_cases hqb : q = b
      · subst hqb
        rw [hb] at g1; cases g1; rw [hm] at hm'; cases hm'
        have := g2 (hW.fam _ _ root vb hb hk) hqp root vb hk
        exact ⟨by omega, vb, hk, by omega⟩
      · rcases hW.alias q b bq blk mi' mi g1 hb hm' hm hqb hc with ⟨_, h⟩ | ⟨r', vb', vb2, k1, k2, k3⟩
        · rw [hk] at h; cases h
        · rw [hk] at k2; cases k2
          have := g2 (hW.fam q bq root vb' g1 k1) hqp root vb' k1
          exact ⟨by omega, vb', k1, by omega⟩
    · exact .inl hc
  refine ⟨fun P => storeCells_run P hB hro hn hfit, setCells_below _ _ _ _ hW.below h4'.1, ?_, ?_, ?_, ?_, Tidy.layAt hTk (Nat.le_trans hp (Nat.le_of_lt hnx)) hnx (fun r v hk' => by cases hk'; exact hrn), ?_, ?_⟩
  · intro q mi' hq
    rw [setCells_size]
    by_cases e : q = p
    · subst e; rw [upd_same] at hq; cases hq; exact ⟨hnx, (hW.dom b mi hm).2⟩
    · rw [upd_ne m e] at hq
      have := hW.dom q mi' hq
      exact ⟨by show q.nat < nx.nat; omega, this.2⟩
  · intro q bq hq
    have hq' : (if q = p then some (⟨esz, .fam root (vb + o), old ++ new⟩ : Blk) else Tr.get q (kill fr p (famOf root σ.fams) σ.heap)) = some bq := by rw [← Tr.get_set]; exact hq
    by_cases e : q = p
    · rw [if_pos e] at hq'; cases hq'; subst e
      refine ⟨_, upd_same _ _ _, ⟨cells', ty, frz, e1, by rw [e2]; exact h2, ?_, .inr h4'⟩⟩
      intro i v hv
      have hol := ho.length
      simp only at hv ⊢
      rw [List.getElem?_append] at hv
      by_cases c1 : i < old.length
      · rw [if_pos c1] at hv
        obtain ⟨x, hx, hs⟩ := ho.get hv
        refine ⟨x, ?_, hs.mono hle⟩
        rw [e4 _ (.inl (by omega))]
        have := hxs i x hx
        simpa [World.cell?, h1] using this
      · rw [if_neg c1] at hv
        obtain ⟨x, hx, hs⟩ := hn.get hv
        refine ⟨x, ?_, hs.mono hle⟩
        have hi := (List.getElem?_eq_some_iff.1 hx).1
        rw [← hx, ← e3 _ hi]
        congr 1; omega
    · rw [if_neg e] at hq'
      obtain ⟨g1, g2⟩ := hlive q bq hq'
      obtain ⟨mi', k1, k2⟩ := hW.blk q bq g1
      refine ⟨mi', by rw [upd_ne m e]; exact k1, ?_⟩
      have := k2.other (xs := ys) ((g2 mi' k1).imp id (·.1)) hcell
      obtain ⟨c, t, f, r1, r2, r3, r4⟩ := this.cells
      exact ⟨c, t, f, r1, r2, fun i v hv => let ⟨x, hx, hs⟩ := r3 i v hv; ⟨x, hx, hs.mono hle⟩, r4⟩
  · intro q q' bq bq' mi1 mi2 hq hq' e1 e2 hne hcc
    have g1 : (if q = p then some (⟨esz, .fam root (vb + o), old ++ new⟩ : Blk) else Tr.get q (kill fr p (famOf root σ.fams) σ.heap)) = some bq := by rw [← Tr.get_set]; exact hq
    have g2 : (if q' = p then some (⟨esz, .fam root (vb + o), old ++ new⟩ : Blk) else Tr.get q' (kill fr p (famOf root σ.fams) σ.heap)) = some bq' := by rw [← Tr.get_set]; exact hq'
    by_cases c1 : q = p
    · subst c1
      have c2 : q' ≠ q := Ne.symm hne
      rw [upd_same] at e1; cases e1
      rw [upd_ne m c2] at e2
      rw [if_pos rfl] at g1; cases g1
      rw [if_neg c2] at g2
      obtain ⟨_, r⟩ := hlive q' bq' g2
      rcases r mi2 e2 with r | ⟨_, vq, r1, r2⟩
      · exact absurd hcc.symm r
      · exact .inr ⟨root, vb + o, vq, rfl, r1, by simp only; omega⟩
    · rw [upd_ne m c1] at e1
      rw [if_neg c1] at g1
      by_cases c2 : q' = p
      · subst c2
        rw [upd_same] at e2; cases e2
        rw [if_pos rfl] at g2; cases g2
        obtain ⟨_, r⟩ := hlive q bq g1
        rcases r mi1 e1 with r | ⟨_, vq, r1, r2⟩
        · exact absurd hcc r
        · exact .inr ⟨root, vq, vb + o, r1, rfl, by simp only; omega⟩
      · rw [upd_ne m c2] at e2
        rw [if_neg c2] at g2
        exact hW.alias q q' bq bq' mi1 mi2 (hlive q bq g1).1 (hlive q' bq' g2).1 e1 e2 hne hcc
  · intro q bq root' vb' hq hkq
    have g1 : (if q = p then some (⟨esz, .fam root (vb + o), old ++ new⟩ : Blk) else Tr.get q (kill fr p (famOf root σ.fams) σ.heap)) = some bq := by rw [← Tr.get_set]; exact hq
    show q ∈ famOf root' (famsOf (.fam root (vb + o)) p σ.fams)
    by_cases c1 : q = p
    · rw [if_pos c1] at g1; cases g1; subst c1; cases hkq; exact mem_famsOf_self
    · rw [if_neg c1] at g1; exact mem_famsOf (hW.fam q bq root' vb' (hlive q bq g1).1 hkq)

  · intro q mb hq
    obtain ⟨mi', k1, k2⟩ := hW.mp q mb hq
    have := k2.other (mi := mi) (off := mi.base + o + k) (xs := ys) ⟨cells, ty, frz, h1⟩
    obtain ⟨es, r1, r2⟩ := this.obj
    exact ⟨mi', hle q mi' k1, this.own, es, r1, r2.mono hle⟩
  · intro q q' mb mb' mi1 mi2 hq hq' e1 e2 hc
    obtain ⟨mi3, k1, _⟩ := hW.mp q mb hq
    obtain ⟨mi4, k2, _⟩ := hW.mp q' mb' hq'
    rw [hle q mi3 k1] at e1; cases e1
    rw [hle q' mi4 k2] at e2; cases e2
    exact hW.mpi q q' mb mb' _ _ hq hq' k1 k2 hc
/-! What is read of a slice, or of a string. -/
theorem rdN_run (hW : WR w0 m σ w) {b : Pos} {o n : Nat} {cs : List AVal} (h : rdN σ b o n = some cs) {mi : MI} (hm : m b = some mi) (P : Program) :
    ∃ xs : List Value, (loadCells ⟨mi.c, mi.base + o, none⟩ n).run P w = .ok xs.toArray w ∧ SRs m cs xs ∧ xs.length = n := by
  cases n with
  | zero => unfold rdN at h; cases h; exact ⟨[], rfl, .nil, rfl⟩
  | succ n => exact hW.read h hm P
theorem rdN_cells (hW : WR w0 m σ w) {b : Pos} {o n : Nat} {cs : List AVal} (h : rdN σ b o n = some cs) {mi : MI} (hm : m b = some mi) :
    ∃ xs : List Value, (∀ i x, xs[i]? = some x → w.cell? ⟨mi.c, mi.base + o + i, none⟩ = some x) ∧ SRs m cs xs ∧ xs.length = n := by
  cases n with
  | zero => unfold rdN at h; cases h; exact ⟨[], fun i x h => by simp at h, .nil, rfl⟩
  | succ n =>
    obtain ⟨blk, hb, hn, rfl⟩ := read_eq.1 h
    have hn := hn.resolve_left (by omega)
    let f : Nat → Value := fun i => (w.cell? ⟨mi.c, mi.base + o + i, none⟩).getD undef
    have hc : ∀ i, i < n + 1 → ∃ v x, blk.cells[o + i]? = some v ∧ w.cell? ⟨mi.c, mi.base + o + i, none⟩ = some x ∧ SR m v x := fun i hi => by
      have hlt : o + i < blk.cells.length := by omega
      have hv : blk.cells[o + i]? = some blk.cells[o + i] := by simp [hlt]
      obtain ⟨x, hx, hs⟩ := hW.cell hb hm hv
      exact ⟨_, x, hv, by rw [Nat.add_assoc]; exact hx, hs⟩
    refine ⟨(List.range (n + 1)).map f, ?_, ?_, by simp⟩
    · intro i x hx
      have hi : i < n + 1 := by
        have := (List.getElem?_eq_some_iff.1 hx).1; simpa using this
      obtain ⟨v', x', h1, h2, h3⟩ := hc i hi
      simp [hi, f, h2] at hx
      rw [← hx]; exact h2
    · refine SRs.of_get ?_ ?_
      · simp; omega
      · intro i v x hv hx
        have hi : i < n + 1 := by
          have := (List.getElem?_eq_some_iff.1 hx).1; simpa using this
        obtain ⟨v', x', h1, h2, h3⟩ := hc i hi
        have e1 : v = v' := by
          simp [hi, List.getElem?_drop] at hv
          rw [h1] at hv; cases hv; rfl
        have e2 : x = x' := by
          simp [hi, f, h2] at hx; exact hx.symm
        rw [e1, e2]; exact h3
theorem slLen_run {x : AVal} {X : Value} (hx : VR m x X) {n : Nat} (h : slLen x = some n) : (Builtin.lenOf X).run P w = .ok n w := by
  unfold slLen at h
  split at h
  · cases h; rw [hx.nsl]; rfl
  · cases h; obtain ⟨mi, _, _, rfl⟩ := hx.sl; rfl
  · cases h; obtain ⟨mi, off, cap, _, _, _, _, rfl⟩ := hx.slu; rfl
  · cases h; obtain ⟨t, rfl, rfl⟩ := hx.str; rw [lenS_eq]; simp [Builtin.lenOf]
  · cases h
theorem slRead_run (hW : WR w0 m σ w) {x : AVal} {X : Value} (hx : VR m x X) {n k esz : Nat} (hk : slLen x = some k) (hn : n ≤ k) {new : List AVal} (h : slRead esz n x σ = some new) (P : Program) :
    ∃ xs : List Value, (Builtin.firstCells esz n X).run P w = .ok xs.toArray w ∧ SRs m new xs ∧ xs.length = n * esz := by
  unfold slRead at h
  split at h
  · obtain ⟨h0, h⟩ := test_eq.1 h
    cases h
    have : n = 0 := by cases n with
      | zero => rfl
      | succ n => cases h0
    subst this
    rw [hx.nsl]; exact ⟨[], rfl, .nil, by simp⟩
  · obtain ⟨mi, h1, _, rfl⟩ := hx.sl
    exact rdN_run hW h h1 P
  · obtain ⟨mi, off, cap, h1, h2, h3, h4, rfl⟩ := hx.slu
    simp only [slLen, Option.some.injEq] at hk
    rcases h3 with rfl | ⟨hl, _⟩
    · exact rdN_run hW h h1 P
    · have : n = 0 := by omega
      subst this
      rw [Nat.zero_mul] at h
      unfold rdN at h; cases h
      refine ⟨[], ?_, .nil, by simp⟩
      simp [Builtin.firstCells, loadCells, loadCellsFrom]
  · rename_i s
    obtain ⟨h0, h⟩ := test_eq.1 h
    have h0 := Nat.eq_of_beq_eq_true h0
    subst h0
    obtain ⟨t, rfl, ht⟩ := hx.str
    obtain ⟨h1, rfl⟩ := takeN_eq.1 h
    have hr := (bytesV_rel (m := m) t).take n
    rw [ht] at hr
    refine ⟨_, ?_, hr, ?_⟩
    · simp only [Builtin.firstCells, Sem.run_pure]
      congr 1
      rw [ByteArray.data_extract]
      apply Array.ext'
      simp
    · have := hr.length
      rw [this, List.length_take]; omega
  · cases h
end
end Go.Am
