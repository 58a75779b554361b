/-
  Memory made and changed: the evaluator's and the model's side by side. Conditions: none.
-/
import Derived.Test.YtdolmkdbpnlegaaGreatDoorK9
import Derived.Laws.IdiomCopy
namespace Go.Am
open Go.RowKit (Below)

noncomputable def kill (from_ : Nat) (but : Pos) : List Pos → Tr Blk → Tr Blk
  | [], h => h
  | p :: l, h => match p.beq but with
    | true => kill from_ but l h
    | false => match Tr.get p h with
      | some blk => match blk.kind with
        | .fam _ vb => match Nat.ble (vb + lenN blk.cells) from_ with
          | true => kill from_ but l h
          | false => kill from_ but l (Tr.set p none h)
        | _ => kill from_ but l h
      | none => kill from_ but l h
theorem killK_eq {R : Type} (from_ : Nat) (but : Pos) (l : List Pos) (h : Tr Blk) (k : Tr Blk → R) : killK from_ but l h k = k (kill from_ but l h) := by
  induction l generalizing h with
  | nil => rfl
  | cons p l ih =>
    unfold killK kill
    cases p.beq but with
    | true => exact ih h
    | false =>
      simp only
      cases Tr.get p h with
      | none => exact ih h
      | some blk =>
        obtain ⟨e, kind, cs⟩ := blk
        simp only
        cases kind with
        | ex => exact ih h
        | ro => exact ih h
        | fam r vb =>
          simp only
          cases Nat.ble (vb + lenN cs) from_ with
          | true => exact ih h
          | false => simp only [Tr.setK_eq]; exact ih _
theorem get_kill {from_ : Nat} {but : Pos} {l : List Pos} {h : Tr Blk} {q : Pos} {blk : Blk} (hq : Tr.get q (kill from_ but l h) = some blk) :
    Tr.get q h = some blk ∧ (q ∈ l → q ≠ but → ∀ root vb, blk.kind = .fam root vb → vb + blk.cells.length ≤ from_) := by
  induction l generalizing h with
  | nil => exact ⟨hq, fun h => by cases h⟩
  | cons p l ih =>
    unfold kill at hq
    cases hb : p.beq but with
    | true =>
      rw [hb] at hq
      obtain ⟨h1, h2⟩ := ih hq
      refine ⟨h1, fun hm hne => ?_⟩
      cases hm with
      | head => exact absurd (Pos.beq_iff.1 hb) hne
      | tail _ hm => exact h2 hm hne
    | false =>
      rw [hb] at hq
      simp only at hq
      cases hg : Tr.get p h with
      | none =>
        rw [hg] at hq
        obtain ⟨h1, h2⟩ := ih hq
        refine ⟨h1, fun hm hne => ?_⟩
        cases hm with
        | head => rw [hg] at h1; cases h1
        | tail _ hm => exact h2 hm hne
      | some b =>
        rw [hg] at hq
        simp only at hq
        cases hk : b.kind with
        | ex =>
          rw [hk] at hq
          obtain ⟨h1, h2⟩ := ih hq
          refine ⟨h1, fun hm hne => ?_⟩
          cases hm with
          | head => rw [hg] at h1; cases h1; intro r vb e; rw [hk] at e; cases e
          | tail _ hm => exact h2 hm hne
        | ro =>
          rw [hk] at hq
          obtain ⟨h1, h2⟩ := ih hq
          refine ⟨h1, fun hm hne => ?_⟩
          cases hm with
          | head => rw [hg] at h1; cases h1; intro r vb e; rw [hk] at e; cases e
          | tail _ hm => exact h2 hm hne
        | fam r vb =>
          rw [hk] at hq
          simp only at hq
          cases hle : Nat.ble (vb + lenN b.cells) from_ with
          | true =>
            rw [hle] at hq
            obtain ⟨h1, h2⟩ := ih hq
            refine ⟨h1, fun hm hne => ?_⟩
            cases hm with
            | head =>
              rw [hg] at h1; cases h1
              intro r' vb' e; rw [hk] at e; cases e
              have := Nat.le_of_ble_eq_true hle; rw [lenN_eq] at this; exact this
            | tail _ hm => exact h2 hm hne
          | false =>
            rw [hle] at hq
            obtain ⟨h1, h2⟩ := ih hq
            rw [Tr.get_set] at h1
            by_cases e : q = p
            · rw [if_pos e] at h1; cases h1
            · rw [if_neg e] at h1
              refine ⟨h1, fun hm hne => ?_⟩
              cases hm with
              | head => exact absurd rfl e
              | tail _ hm => exact h2 hm hne
theorem kill_but {from_ : Nat} {but : Pos} {l : List Pos} {h : Tr Blk} : Tr.get but (kill from_ but l h) = Tr.get but h := by
  induction l generalizing h with
  | nil => rfl
  | cons p l ih =>
    unfold kill
    cases hb : p.beq but with
    | true => exact ih
    | false =>
      simp only
      cases hg : Tr.get p h with
      | none => exact ih
      | some b =>
        simp only
        cases hk : b.kind with
        | ex => exact ih
        | ro => exact ih
        | fam r vb =>
          simp only
          cases Nat.ble (vb + lenN b.cells) from_ with
          | true => exact ih
          | false =>
            simp only
            rw [ih, Tr.get_set_ne (fun e => Pos.beq_false.1 hb e.symm)]
theorem get_kill_none {from_ : Nat} {but : Pos} {l : List Pos} {h : Tr Blk} {q : Pos} (hq : Tr.get q h = none) : Tr.get q (kill from_ but l h) = none := by
  cases hk : Tr.get q (kill from_ but l h) with
  | none => rfl
  | some b => rw [(get_kill hk).1] at hq; cases hq

theorem setCells_heap : ∀ (vs : List Value) (c o : Nat) (w : World) (cells : Array Value) (ty : TypeId) (frz : Nat × Nat), w.heap[c]? = some (.cells cells ty frz) → o + vs.length ≤ cells.size →
    ∃ cells', (w.setCells c o vs).heap[c]? = some (.cells cells' ty frz) ∧ cells'.size = cells.size ∧
      (∀ i, i < vs.length → cells'[o + i]? = vs[i]?) ∧ (∀ i, i < o ∨ o + vs.length ≤ i → cells'[i]? = cells[i]?)
  | [], c, o, w, cells, ty, frz, h, _ => ⟨cells, h, rfl, fun i hi => by simp at hi, fun i _ => rfl⟩
  | v :: vs, c, o, w, cells, ty, frz, h, hl => by
    have h1 : (w.setCell ⟨c, o, none⟩ v).heap[c]? = some (.cells (cells.setIfInBounds o v) ty frz) := by
      simp [World.setCell, Array.getElem?_modify, h]
    obtain ⟨cells', e1, e2, e3, e4⟩ := setCells_heap vs c (o + 1) _ _ ty frz h1 (by simp at hl ⊢; omega)
    refine ⟨cells', e1, by simpa using e2, ?_, ?_⟩
    · intro i hi
      cases i with
      | zero =>
        rw [e4 (o + 0) (.inl (by omega))]
        simp at hl
        have : o < cells.size := by omega
        simp [this]
      | succ i =>
        have := e3 i (by simpa using hi)
        rw [show o + (i + 1) = o + 1 + i by omega, this]; rfl
    · intro i hi
      rw [e4 i (by simp at hi; omega)]
      have : o ≠ i := by simp at hi; omega
      simp [Array.getElem?_setIfInBounds_ne this]
theorem setCells_other : ∀ (vs : List Value) (c o : Nat) (w : World) (k : Nat), k ≠ c → (w.setCells c o vs).heap[k]? = w.heap[k]?
  | [], c, o, w, k, _ => rfl
  | v :: vs, c, o, w, k, h => by
    rw [World.setCells, setCells_other vs c (o + 1) _ k h]
    exact RowKit.Below.heap_setCell _ _ _ _ h
theorem setCells_size : ∀ (vs : List Value) (c o : Nat) (w : World), (w.setCells c o vs).heap.size = w.heap.size
  | [], _, _, _ => rfl
  | v :: vs, c, o, _ => by rw [World.setCells, setCells_size vs]; simp
theorem setCells_below {B : Nat} {w0 : World} : ∀ (vs : List Value) (c o : Nat) (w : World), Below B w0 w → B ≤ c → Below B w0 (w.setCells c o vs)
  | [], _, _, _, h, _ => h
  | v :: vs, c, o, _, h, hc => setCells_below vs c (o + 1) _ (h.setCell (p := ⟨c, o, none⟩) hc v) hc

section
variable {w0 w : World} {m : Mp} {σ : S}
theorem storeCells_run (P : Program) {mi : MI} {blk : Blk} (hb : BR w0 m mi blk w) (hro : blk.kind ≠ .ro) {off : Nat} {new : List AVal} {xs : List Value} (hs : SRs m new xs) (hle : off + xs.length ≤ mi.size) :
    (storeCells ⟨mi.c, off, none⟩ xs).run P w = .ok () (w.setCells mi.c off xs) := by
  obtain ⟨cells, ty, frz, h1, h2, h3, h4⟩ := hb.cells
  have h4 := h4.2.resolve_left hro
  have := run_storeCells_cells (P := P) mi.c off xs 0 w ?_ ?_ ?_
  · simpa using this
  · intro j hj
    have : off + j < cells.size := by omega
    simp [World.cell?, h1, this]
  · intro j hj
    have := h4.2 (off + j) (by omega)
    simp only [World.frozen?, h1, Nat.add_zero]
    simp only [Bool.and_eq_false_iff, decide_eq_false_iff_not]
    omega
  · intro v hv
    obtain ⟨i, hi⟩ := List.getElem?_of_mem hv
    obtain ⟨u, _, hu⟩ := hs.get' hi
    exact hu.oneCell
theorem MR.other {mb : MBlk} {mi mi' : MI} (h : MR w0 m mi' mb w) {off : Nat} {xs : List Value} (hcell : ∃ cells ty frz, w.heap[mi.c]? = some (.cells cells ty frz)) : MR w0 m mi' mb (w.setCells mi.c off xs) := by
  obtain ⟨es, h1, h2⟩ := h.obj
  refine ⟨h.own, es, ?_, h2⟩
  obtain ⟨cells, ty, frz, k⟩ := hcell
  rw [setCells_other _ _ _ _ _ (fun e => by rw [e, k] at h1; cases h1; exact h2.cells)]; exact h1
theorem BR.other {b : Blk} {mi mi' : MI} (h : BR w0 m mi' b w) {off : Nat} {xs : List Value} (hne : mi'.c ≠ mi.c ∨ mi'.base + b.cells.length ≤ off)
    (hcell : ∃ cells ty frz, w.heap[mi.c]? = some (.cells cells ty frz) ∧ off + xs.length ≤ cells.size) : BR w0 m mi' b (w.setCells mi.c off xs) := by
  obtain ⟨cells, ty, frz, h1, h2, h3, h4⟩ := h.cells
  by_cases hc : mi'.c = mi.c
  · have hne := hne.resolve_left (fun h => h hc)
    obtain ⟨cs, ty', frz', k1, k2⟩ := hcell
    rw [hc, k1] at h1; cases h1
    obtain ⟨cells', e1, e2, e3, e4⟩ := setCells_heap xs mi.c off w _ _ _ k1 k2
    refine ⟨cells', _, _, by rw [hc]; exact e1, by rw [e2]; exact h2, ?_, h4⟩
    intro i v hv
    obtain ⟨x, hx, hs⟩ := h3 i v hv
    refine ⟨x, ?_, hs⟩
    rw [e4 _ (.inl ?_)]; exact hx
    have := (List.getElem?_eq_some_iff.1 hv).1; omega
  · exact ⟨cells, ty, frz, by rw [setCells_other _ _ _ _ _ hc]; exact h1, h2, h3, h4⟩
theorem put_cases {b : Pos} {o : Nat} {new : List AVal} {σ' : S} (h : σ.put b o new = some σ') :
    ∃ blk cs, Tr.get b σ.heap = some blk ∧ blk.kind ≠ .ro ∧ putN o new blk.cells = some cs ∧ σ'.next = σ.next ∧ σ'.fams = σ.fams ∧ σ'.maps = σ.maps ∧
      ((blk.kind = .ex ∧ σ'.heap = Tr.set b (some ⟨blk.esz, .ex, cs⟩) σ.heap) ∨
       ∃ root vb, blk.kind = .fam root vb ∧ σ'.heap = Tr.set b (some ⟨blk.esz, .fam root vb, cs⟩) (kill (vb + o) b (famOf root σ.fams) σ.heap)) := by
  unfold S.put at h
  obtain ⟨blk, hb, h⟩ := andThen_eq.1 h
  obtain ⟨e, kind, cells⟩ := blk
  unfold putBlk at h
  cases kind with
  | ex =>
    obtain ⟨hp, nx, fm, ms⟩ := σ
    simp only [putEx] at h
    obtain ⟨cs, hc, h⟩ := andThen_eq.1 h
    rw [Tr.setK_eq] at h; cases h
    exact ⟨_, cs, hb, by simp, hc, rfl, rfl, rfl, .inl ⟨rfl, rfl⟩⟩
  | ro => cases h
  | fam root vb =>
    obtain ⟨hp, nx, fm, ms⟩ := σ
    simp only [putFam] at h
    obtain ⟨cs, hc, h⟩ := andThen_eq.1 h
    rw [killK_eq, Tr.setK_eq] at h; cases h
    exact ⟨_, cs, hb, by simp, hc, rfl, rfl, rfl, .inr ⟨root, vb, rfl, rfl⟩⟩
theorem WR.put (hW : WR w0 m σ w) {b : Pos} {o : Nat} {new : List AVal} {σ' : S} (h : σ.put b o new = some σ') {mi : MI} (hm : m b = some mi) {xs : List Value} (hs : SRs m new xs) :
    (∀ P, (storeCells ⟨mi.c, mi.base + o, none⟩ xs).run P w = .ok () (w.setCells mi.c (mi.base + o) xs)) ∧ WR w0 m σ' (w.setCells mi.c (mi.base + o) xs) ∧ σ'.next = σ.next := by
  obtain ⟨blk, cs, hb, hro, hput, hn, hf, hmp, hcase⟩ := put_cases h
  have hB := hW.get hb hm
  obtain ⟨cells, ty, frz, h1, h2, h3, h4⟩ := hB.cells
  have h4' := h4.2.resolve_left hro
  obtain ⟨hlen, hcs⟩ := putN_eq.1 hput
  have hxl := hs.length
  have hbl : mi.base + blk.cells.length ≤ mi.size ∨ blk.cells.length = 0 := by
    cases hz : blk.cells.length with
    | zero => exact .inr rfl
    | succ n =>
      left
      have : blk.cells[n]? = some (blk.cells[n]'(by omega)) := by simp
      obtain ⟨x, hx, _⟩ := h3 n _ this
      have := (Array.getElem?_eq_some_iff.1 hx).1; omega
  by_cases hempty : xs.length = 0
  · -- nothing is written: the block's cells are as they were
    have hx0 : xs = [] := List.length_eq_zero_iff.1 hempty
    subst hx0
    have hn0 : new = [] := by cases hs; rfl
    subst hn0
    have hcs' : cs = blk.cells := by rw [hcs]; simp
    refine ⟨fun P => rfl, ?_, hn⟩
    show WR w0 m σ' w
    have hget : ∀ q bq, Tr.get q σ'.heap = some bq → ∃ bq', Tr.get q σ.heap = some bq' ∧ bq'.kind = bq.kind ∧ bq'.cells = bq.cells ∧ bq'.esz = bq.esz := by
      intro q bq hq
      rcases hcase with ⟨hk, he⟩ | ⟨root, vb, hk, he⟩
      · rw [he, Tr.get_set] at hq
        by_cases e : q = b
        · rw [if_pos e] at hq; cases hq; subst e; exact ⟨blk, hb, hk, by rw [hcs'], rfl⟩
        · rw [if_neg e] at hq; exact ⟨bq, hq, rfl, rfl, rfl⟩
      · rw [he, Tr.get_set] at hq
        by_cases e : q = b
        · rw [if_pos e] at hq; cases hq; subst e; exact ⟨blk, hb, hk, by rw [hcs'], rfl⟩
        · rw [if_neg e] at hq; exact ⟨bq, (get_kill hq).1, rfl, rfl, rfl⟩
    refine ⟨hW.below, by rw [hn]; exact hW.dom, ?_, ?_, ?_, hW.tidy.sub hn hf fun q bq hq => let ⟨b1, g1, g2, _⟩ := hget q bq hq; ⟨b1, g1, g2⟩, by rw [hmp]; exact hW.mp, hW.gl, by rw [hmp]; exact hW.mpi⟩
    · intro q bq hq
      obtain ⟨bq', g1, g2, g3, g4⟩ := hget q bq hq
      obtain ⟨mi', k1, k2⟩ := hW.blk q bq' g1
      refine ⟨mi', k1, ⟨?_⟩⟩
      obtain ⟨c, t, f, r1, r2, r3, r4⟩ := k2.cells
      exact ⟨c, t, f, r1, r2, by rw [← g3]; exact r3, by rw [← g2, ← g4]; exact r4⟩
    · intro q q' bq bq' mi1 mi2 hq hq' e1 e2 hne hc
      obtain ⟨b1, g1, g2, _⟩ := hget q bq hq
      obtain ⟨b2, g1', g2', _⟩ := hget q' bq' hq'
      have := hW.alias q q' b1 b2 mi1 mi2 g1 g1' e1 e2 hne hc
      rwa [g2, g2'] at this
    · intro q bq root vb hq hk
      obtain ⟨b1, g1, g2, _⟩ := hget q bq hq
      rw [hf]; exact hW.fam q b1 root vb g1 (by rw [g2]; exact hk)
  have hfit : mi.base + o + xs.length ≤ mi.size := by
    rcases hbl with h | h
    · omega
    · omega
  refine ⟨fun P => storeCells_run P hB hro hs hfit, ?_, hn⟩
  have hcell : ∃ cells ty frz, w.heap[mi.c]? = some (.cells cells ty frz) ∧ mi.base + o + xs.length ≤ cells.size := ⟨cells, ty, frz, h1, by omega⟩
  have hlive : ∀ q bq, Tr.get q σ'.heap = some bq → q ≠ b → Tr.get q σ.heap = some bq ∧ ∀ mi', m q = some mi' → mi'.c ≠ mi.c ∨ mi'.base + bq.cells.length ≤ mi.base + o := by
    intro q bq hq hne
    rcases hcase with ⟨hk, he⟩ | ⟨root, vb, hk, he⟩
    · rw [he, Tr.get_set, if_neg hne] at hq
      refine ⟨hq, fun mi' hm' => .inl fun hc => ?_⟩
      rcases hW.alias q b bq blk mi' mi hq hb hm' hm hne hc with ⟨_, h⟩ | ⟨_, _, _, _, h, _⟩
      · rw [hk] at h; cases h
      · rw [hk] at h; cases h
    · rw [he, Tr.get_set, if_neg hne] at hq
      obtain ⟨g1, g2⟩ := get_kill hq
      refine ⟨g1, fun mi' hm' => ?_⟩
      by_cases hc : mi'.c = mi.c
      · right
        rcases hW.alias q b bq blk mi' mi g1 hb hm' hm hne hc with ⟨_, h⟩ | ⟨r', vb', vb2, k1, k2, k3⟩
        · rw [hk] at h; cases h
        · rw [hk] at k2; cases k2
          have := g2 (hW.fam q bq root vb' g1 k1) hne root vb' k1
          omega
      · exact .inl hc
  have hself : Tr.get b σ'.heap = some ⟨blk.esz, blk.kind, cs⟩ := by
    rcases hcase with ⟨hk, he⟩ | ⟨root, vb, hk, he⟩
    · rw [he, Tr.get_set_same, hk]
    · rw [he, Tr.get_set_same, hk]
  have hold : ∀ q bq, Tr.get q σ'.heap = some bq → ∃ bq', Tr.get q σ.heap = some bq' ∧ bq'.kind = bq.kind := by
    intro q bq hq
    by_cases e : q = b
    · subst e; rw [hself] at hq; cases hq; exact ⟨blk, hb, rfl⟩
    · exact ⟨bq, (hlive q bq hq e).1, rfl⟩
  refine ⟨setCells_below _ _ _ _ hW.below h4'.1, ?_, ?_, ?_, ?_, hW.tidy.sub hn hf hold, ?_, hW.gl, by rw [hmp]; exact hW.mpi⟩
  · intro q mi' hq
    rw [hn, setCells_size]; exact hW.dom q mi' hq
  · intro q bq hq
    by_cases e : q = b
    · subst e
      rw [hself] at hq; cases hq
      refine ⟨mi, hm, ⟨?_⟩⟩
      obtain ⟨cells', e1, e2, e3, e4⟩ := setCells_heap xs mi.c (mi.base + o) w cells ty frz h1 (by omega)
      refine ⟨cells', ty, frz, e1, by rw [e2]; exact h2, ?_, h4⟩
      intro i v hv
      rw [hcs] at hv
      simp only [List.append_assoc, List.getElem?_append, List.length_take] at hv
      have hmin : min o blk.cells.length = o := by omega
      rw [hmin] at hv
      by_cases c1 : i < o
      · rw [if_pos c1, List.getElem?_take_of_lt c1] at hv
        obtain ⟨x, hx, hsx⟩ := h3 i v hv
        refine ⟨x, ?_, hsx⟩
        rw [e4 _ (.inl (by omega))]; exact hx
      · rw [if_neg c1] at hv
        by_cases c2 : i - o < new.length
        · rw [if_pos c2] at hv
          obtain ⟨x, hx, hsx⟩ := hs.get hv
          refine ⟨x, ?_, hsx⟩
          rw [show mi.base + i = mi.base + o + (i - o) by omega, e3 _ (by omega)]; exact hx
        · rw [if_neg c2, List.getElem?_drop] at hv
          have : o + new.length + (i - o - new.length) = i := by omega
          rw [this] at hv
          obtain ⟨x, hx, hsx⟩ := h3 i v hv
          refine ⟨x, ?_, hsx⟩
          rw [e4 _ (.inr (by omega))]; exact hx
    · obtain ⟨g1, g2⟩ := hlive q bq hq e
      obtain ⟨mi', k1, k2⟩ := hW.blk q bq g1
      exact ⟨mi', k1, k2.other (g2 mi' k1) hcell⟩
  · intro q q' bq bq' mi1 mi2 hq hq' e1 e2 hne hc
    have old : ∀ q bq, Tr.get q σ'.heap = some bq → ∃ bq', Tr.get q σ.heap = some bq' ∧ bq'.kind = bq.kind := by
      intro q bq hq
      by_cases e : q = b
      · subst e; rw [hself] at hq; cases hq; exact ⟨blk, hb, rfl⟩
      · exact ⟨bq, (hlive q bq hq e).1, rfl⟩
    obtain ⟨b1, g1, g2⟩ := old q bq hq
    obtain ⟨b2, g1', g2'⟩ := old q' bq' hq'
    have := hW.alias q q' b1 b2 mi1 mi2 g1 g1' e1 e2 hne hc
    rwa [g2, g2'] at this
  · intro q bq root vb hq hk
    rw [hf]
    by_cases e : q = b
    · subst e; rw [hself] at hq; cases hq; exact hW.fam q blk root vb hb hk
    · exact hW.fam q bq root vb (hlive q bq hq e).1 hk
  · intro q mb hq
    rw [hmp] at hq
    obtain ⟨mi', k1, k2⟩ := hW.mp q mb hq
    exact ⟨mi', k1, k2.other ⟨cells, ty, frz, h1⟩⟩
end
end Go.Am
