/-
  An extra block at a name that is free changes nothing. Conditions: none.
-/
import Derived.Test.YthnjfpfcnpefaaaGreatK18
namespace Go.Am
/-- Nothing knows the name. -/
structure Free (p : Pos) (σ : S) : Prop where
  heap : Tr.get p σ.heap = none
  fams : Tr.get p σ.fams = none
  lists : ∀ root, p ∉ famOf root σ.fams
  roots : ∀ b blk root vb, Tr.get b σ.heap = some blk → blk.kind = .fam root vb → root ≠ p
/-- A block that heads its own family, or has none. -/
def Own (p : Pos) (blk : Blk) : Prop := ∀ root vb, blk.kind = .fam root vb → root = p
def FrR {α : Type} (F : S → Option α) : Prop := ∀ σ v, F σ = some v → ∀ p blk, Free p σ → Own p blk → F (σ.lay p blk) = some v
def FrW {α : Type} (F : S → Option (α × S)) : Prop := ∀ σ r σ', F σ = some (r, σ') → σ.next.nat ≤ σ'.next.nat ∧
  ∀ p blk, p.nat < σ.next.nat → Free p σ → Own p blk → Free p σ' ∧ F (σ.lay p blk) = some (r, σ'.lay p blk)
section
variable {σ σ' : S} {p q : Pos} {blk : Blk}
theorem lay_heap (σ : S) (p : Pos) (blk : Blk) : (σ.lay p blk).heap = Tr.set p (some blk) σ.heap := by rw [lay_eq]
theorem lay_next (σ : S) (p : Pos) (blk : Blk) : (σ.lay p blk).next = σ.next := by rw [lay_eq]
theorem lay_fams (σ : S) (p : Pos) (blk : Blk) : (σ.lay p blk).fams = famsOf blk.kind p σ.fams := by rw [lay_eq]
theorem lay_maps (σ : S) (p : Pos) (blk : Blk) : (σ.lay p blk).maps = σ.maps := by rw [lay_eq]
theorem Free.ne (h : Free p σ) {b : Pos} {x : Blk} (hb : Tr.get b σ.heap = some x) : b ≠ p := fun e => by subst e; rw [h.heap] at hb; cases hb
theorem get_lay (h : Free p σ) {b : Pos} {x : Blk} (hb : Tr.get b σ.heap = some x) : Tr.get b (σ.lay p blk).heap = some x := by
  rw [lay_heap, Tr.get_set_ne (h.ne hb)]; exact hb
theorem famOf_lay (ho : Own p blk) {root : Pos} (hr : root ≠ p) : famOf root (σ.lay p blk).fams = famOf root σ.fams := by
  rw [lay_fams]
  unfold famsOf
  split
  · rename_i r vb hk
    have := ho r vb hk
    subst this
    simp only [famOf]
    rw [Tr.get_set_ne hr]
  · rfl
theorem S.ext4 {a b : S} (h1 : a.heap = b.heap) (h2 : a.next = b.next) (h3 : a.fams = b.fams) (h4 : a.maps = b.maps) : a = b := by
  cases a; cases b; simp only at h1 h2 h3 h4; subst h1 h2 h3 h4; rfl
theorem famsOf_comm {k k' : Kind} {F : Tr (List Pos)} (h1 : ∀ root vb, k = .fam root vb → root = p) (h2 : ∀ root vb, k' = .fam root vb → root ≠ p) : famsOf k' q (famsOf k p F) = famsOf k p (famsOf k' q F) := by
  cases k with
  | fam r vb =>
    have := h1 r vb rfl
    subst this
    cases k' with
    | fam r' vb' =>
      have hne := h2 r' vb' rfl
      simp only [famsOf, famOf]
      rw [Tr.get_set_ne hne, Tr.get_set_ne (Ne.symm hne), Tr.set_comm hne]
    | ex => rfl
    | ro => rfl
  | ex => rfl
  | ro => rfl
/-- Laid on top of each other. -/
theorem lay_comm {blk' : Blk} (hq : q ≠ p) (ho : Own p blk) (hr : ∀ root vb, blk'.kind = .fam root vb → root ≠ p) : (σ.lay p blk).lay q blk' = (σ.lay q blk').lay p blk := by
  refine S.ext4 ?_ ?_ ?_ ?_
  · simp only [lay_heap]; rw [Tr.set_comm hq]
  · simp only [lay_next]
  · simp only [lay_fams]; exact famsOf_comm ho hr
  · simp only [lay_maps]
theorem Free.lay {blk' : Blk} (h : Free p σ) (hq : q ≠ p) (hr : ∀ root vb, blk'.kind = .fam root vb → root ≠ p) : Free p (σ.lay q blk') := by
  refine ⟨?_, ?_, ?_, ?_⟩
  · rw [lay_heap, Tr.get_set_ne (Ne.symm hq)]; exact h.heap
  · rw [lay_fams]
    unfold famsOf
    split
    · rename_i r vb hk
      rw [Tr.get_set_ne (Ne.symm (hr r vb hk))]; exact h.fams
    · exact h.fams
  · intro root
    rw [lay_fams]
    unfold famsOf
    split
    · rename_i r vb hk
      simp only [famOf]
      rw [Tr.get_set]
      by_cases e : root = r
      · rw [if_pos e]
        intro hm
        cases hm with
        | head => exact hq rfl
        | tail _ hm => exact h.lists r hm
      · rw [if_neg e]; exact h.lists root
    · exact h.lists root
  · intro b x root vb hb hk
    rw [lay_heap, Tr.get_set] at hb
    by_cases e : b = q
    · rw [if_pos e] at hb; cases hb; exact hr root vb hk
    · rw [if_neg e] at hb; exact h.roots b x root vb hb hk
theorem kill_set {from_ : Nat} {but : Pos} {l : List Pos} {u : Option Blk} (hp : p ∉ l) (h : Tr Blk) : kill from_ but l (Tr.set p u h) = Tr.set p u (kill from_ but l h) := by
  induction l generalizing h with
  | nil => rfl
  | cons x l ih =>
    have hx : x ≠ p := fun e => hp (by rw [e]; exact List.mem_cons_self)
    have ih := ih (fun hm => hp (List.mem_cons_of_mem _ hm))
    unfold kill
    cases x.beq but with
    | true => exact ih h
    | false =>
      simp only
      rw [Tr.get_set_ne hx]
      cases Tr.get x h with
      | none => exact ih h
      | some b =>
        simp only
        cases b.kind with
        | ex => exact ih h
        | ro => exact ih h
        | fam r vb =>
          simp only
          cases Nat.ble (vb + lenN b.cells) from_ with
          | true => exact ih h
          | false => simp only; rw [Tr.set_comm hx, ih]
/-- Cells written. -/
theorem put_fr (b : Pos) (o : Nat) (new : List AVal) (h : σ.put b o new = some σ') : σ'.next = σ.next ∧ ∀ p blk, Free p σ → Own p blk → Free p σ' ∧ (σ.lay p blk).put b o new = some (σ'.lay p blk) := by
  obtain ⟨x, cs, hb, hro, hput, hn, hf, hm, hcase⟩ := put_cases h
  refine ⟨hn, fun p blk hfr ho => ?_⟩
  have hbp := hfr.ne hb
  have hroots : ∀ q bq, Tr.get q σ'.heap = some bq → ∃ bq', (Tr.get q σ.heap = some bq' ∧ bq'.kind = bq.kind) := by
    intro q bq hq
    rcases hcase with ⟨hk, he⟩ | ⟨root, vb, hk, he⟩
    · rw [he, Tr.get_set] at hq
      by_cases e : q = b
      · rw [if_pos e] at hq; cases hq; subst e; exact ⟨x, hb, hk⟩
      · rw [if_neg e] at hq; exact ⟨bq, hq, rfl⟩
    · rw [he, Tr.get_set] at hq
      by_cases e : q = b
      · rw [if_pos e] at hq; cases hq; subst e; exact ⟨x, hb, hk⟩
      · rw [if_neg e] at hq; exact ⟨bq, (get_kill hq).1, rfl⟩
  constructor
  · refine ⟨?_, by rw [hf]; exact hfr.fams, by rw [hf]; exact hfr.lists, ?_⟩
    · cases hg : Tr.get p σ'.heap with
      | none => rfl
      | some bq => obtain ⟨bq', h1, _⟩ := hroots p bq hg; rw [hfr.heap] at h1; cases h1
    · intro q bq root vb hq hk
      obtain ⟨bq', h1, h2⟩ := hroots q bq hq
      exact hfr.roots q bq' root vb h1 (by rw [h2]; exact hk)
  · unfold S.put
    rw [get_lay hfr hb]
    show putBlk (σ.lay p blk) b o new x = _
    obtain ⟨e, kind, cells⟩ := x
    unfold putBlk
    rcases hcase with ⟨hk, he⟩ | ⟨root, vb, hk, he⟩
    · simp only at hk; subst hk
      simp only [putEx, Tr.setK_eq]
      rw [hput]
      show some _ = some _
      congr 1
      refine S.ext4 ?_ ?_ ?_ ?_
      · simp only [lay_heap, he]; rw [Tr.set_comm hbp]
      · simp only [lay_next, hn]
      · simp only [lay_fams, hf]
      · simp only [lay_maps, hm]
    · simp only at hk; subst hk
      simp only [putFam, Tr.setK_eq, killK_eq]
      rw [hput]
      show some _ = some _
      congr 1
      have hr := hfr.roots b _ root vb hb rfl
      refine S.ext4 ?_ ?_ ?_ ?_
      · simp only [lay_heap, he, famOf_lay ho hr]; rw [kill_set (hfr.lists root), Tr.set_comm hbp]
      · simp only [lay_next, hn]
      · simp only [lay_fams, hf]
      · simp only [lay_maps, hm]
/-- Cells read. -/
theorem read_fr (b : Pos) (o n : Nat) : FrR (fun σ => σ.read b o n) := by
  intro σ v h p blk hf ho
  obtain ⟨x, hb, h1, h2⟩ := read_eq.1 h
  exact read_eq.2 ⟨x, get_lay hf hb, h1, h2⟩
theorem rdN_fr (b : Pos) (o n : Nat) : FrR (fun σ => rdN σ b o n) := by
  intro σ v h p blk hf ho
  cases n with
  | zero => exact h
  | succ n => exact read_fr b o (n + 1) σ v h p blk hf ho
theorem slRead_fr (esz n : Nat) (x : AVal) : FrR (slRead esz n x) := by
  intro σ v h p blk hf ho
  unfold slRead at h ⊢
  cases x <;> simp only at h ⊢ <;> first | exact h | exact rdN_fr _ _ _ _ _ h p blk hf ho | cases h
theorem vBytes_fr (b : Pos) (o n : Nat) : FrR (fun σ => vBytes σ b o n) := by
  intro σ v h p blk hf ho
  cases n with
  | zero => exact h
  | succ n =>
  simp only [vBytes] at h ⊢
  obtain ⟨x, hb, hn⟩ := andThen_eq.1 h
  rw [show S.read (σ.lay p blk) _ _ _ = _ from read_fr _ _ _ _ _ hb p blk hf ho]; exact hn
theorem q_fr (q : QOp) (T : Tm) : FrR (evalQ q T) := by
  intro σ v h p blk hf ho
  cases q <;> first | exact h | skip
  · rename_i x
    simp only [evalQ, qLoad] at h ⊢
    unfold vLoad1 at h ⊢
    split at h
    · obtain ⟨b, hb, hn⟩ := andThen_eq.1 h
      rw [get_lay hf hb]; exact hn
    · cases h
  · rename_i n x
    simp only [evalQ, qLoadN] at h ⊢
    unfold vLoadN at h ⊢
    split at h
    · obtain ⟨b, hb, hn⟩ := andThen_eq.1 h
      rw [show (σ.lay p blk).read _ _ _ = _ from read_fr _ _ _ _ _ hb p blk hf ho]; exact hn
    · cases h
  · rename_i x
    simp only [evalQ, qBytesStr] at h ⊢
    unfold vBytesStr at h ⊢
    split at h
    · exact h
    · exact vBytes_fr _ _ _ _ _ h p blk hf ho
    · exact vBytes_fr _ _ _ _ _ h p blk hf ho
    · cases h
  · simp only [evalQ, qMlook, vLook, lay_maps] at h ⊢
    exact h
  · simp only [evalQ, qMlen, vLenM, lay_maps] at h ⊢
    exact h
  · simp only [evalQ, qMentry, vEntry, entryIn, lay_maps] at h ⊢
    exact h
theorem S.setNext_lay {nx : Pos} : S.lay ⟨σ.heap, nx, σ.fams, σ.maps⟩ p blk = ⟨(σ.lay p blk).heap, nx, (σ.lay p blk).fams, (σ.lay p blk).maps⟩ := by
  rw [lay_eq, lay_eq]
theorem Free.next {nx : Pos} (h : Free p σ) : Free p ⟨σ.heap, nx, σ.fams, σ.maps⟩ := ⟨h.heap, h.fams, h.lists, h.roots⟩
theorem Free.kill {from_ : Nat} {but : Pos} {l : List Pos} (h : Free p σ) : Free p ⟨kill from_ but l σ.heap, σ.next, σ.fams, σ.maps⟩ :=
  ⟨get_kill_none h.heap, h.fams, h.lists, fun b blk root vb hb => h.roots b blk root vb (get_kill hb).1⟩
/-- Laid under the next name. -/
theorem alloc_fr (blk' : Blk) : FrW (fun σ => σ.alloc blk') := by
  intro σ q σ' h
  obtain ⟨rfl, nx, h1, rfl⟩ := alloc_eq h
  refine ⟨Nat.le_of_lt (next_lt h1), fun p blk hlt hf ho => ?_⟩
  have hq : σ.next ≠ p := fun e => by subst e; omega
  have hr : ∀ root vb, (blk'.named σ.next).kind = .fam root vb → root ≠ p := by
    intro root vb hk
    obtain ⟨e, k, c⟩ := blk'
    cases k <;> simp [Blk.named] at hk
    rw [← hk.1]; exact hq
  have hl : ∀ σ : S, σ.layAt σ.next (blk'.named σ.next) nx = ⟨(σ.lay σ.next (blk'.named σ.next)).heap, nx, (σ.lay σ.next (blk'.named σ.next)).fams, (σ.lay σ.next (blk'.named σ.next)).maps⟩ := by
    intro σ; rw [lay_eq]; rfl
  constructor
  · rw [hl]; exact (hf.lay hq hr).next
  · simp only
    rw [alloc_unf]
    simp only [lay_next]
    rw [Pos.nextK_eq, h1]
    simp only
    rw [lay_comm hq ho hr, hl σ]
    exact congrArg some (Prod.ext rfl S.setNext_lay.symm)
theorem newFam_fr (esz n : Nat) (cells : List AVal) : FrW (fun σ => newFam σ esz n cells) := by
  intro σ r σ' h
  unfold newFam at h
  simp only [allocR_eq] at h
  obtain ⟨⟨q, σ1⟩, h1, h2⟩ := andThen_eq.1 h
  simp only [forceNat_eq] at h2
  cases h2
  obtain ⟨g1, g2⟩ := alloc_fr _ σ q _ h1
  refine ⟨g1, fun p blk hlt hf ho => ?_⟩
  obtain ⟨g3, g4⟩ := g2 p blk hlt hf ho
  refine ⟨g3, ?_⟩
  simp only at g4 ⊢
  unfold newFam
  rw [allocR_eq, g4]
  simp only [andThen_some, forceNat_eq]
theorem layFam_fr {h : Tr Blk} {esz : Nat} {root : Pos} {vb n : Nat} {cells : List AVal} {r : AVal} (h0 : layFam σ esz root vb n cells h = some (r, σ')) :
    ∃ nx, σ.next.next = some nx ∧ r = .slu σ.next 0 n esz ∧ σ' = ⟨(S.lay ⟨h, σ.next, σ.fams, σ.maps⟩ σ.next ⟨esz, .fam root vb, cells⟩).heap, nx, (S.lay ⟨h, σ.next, σ.fams, σ.maps⟩ σ.next ⟨esz, .fam root vb, cells⟩).fams, σ.maps⟩ := by
  rw [layFam_unf] at h0
  rw [forceNat_eq, lay_eq] at h0
  simp only at h0
  rw [Pos.nextK_eq] at h0
  split at h0
  · rename_i nx h1
    rw [forceNat_eq] at h0
    cases h0
    exact ⟨nx, h1, rfl, by rw [lay_eq]⟩
  · cases h0
theorem alive_set {l : List Pos} {h : Tr Blk} {u : Option Blk} (hp : p ∉ l) : alive l (Tr.set p u h) = alive l h := by
  induction l with
  | nil => rfl
  | cons x l ih =>
    have hx : x ≠ p := fun e => hp (by rw [e]; exact List.mem_cons_self)
    unfold alive
    rw [Tr.get_set_ne hx, ih fun hm => hp (List.mem_cons_of_mem _ hm)]
theorem prune_lay {root : Pos} (hf : Free p σ) (ho : Own p blk) (hr : root ≠ p) : (σ.lay p blk).prune root = (σ.prune root).lay p blk := by
  refine S.ext4 ?_ ?_ ?_ ?_
  · show (σ.lay p blk).heap = _; rw [lay_heap, lay_heap]; rfl
  · show (σ.lay p blk).next = _; rw [lay_next, lay_next]; rfl
  · show Tr.set root (some (alive (famOf root (σ.lay p blk).fams) (σ.lay p blk).heap)) (σ.lay p blk).fams = ((σ.prune root).lay p blk).fams
    rw [famOf_lay ho hr, lay_heap, alive_set (hf.lists root), lay_fams, lay_fams]
    unfold famsOf
    split
    · rename_i r vb hk
      have := ho r vb hk
      subst this
      rw [famOf_prune, if_neg (Ne.symm hr), Tr.set_comm hr]
      rfl
    · rfl
  · show (σ.lay p blk).maps = _; rw [lay_maps, lay_maps]; rfl
theorem Free.prune {root : Pos} (h : Free p σ) (hr : root ≠ p) : Free p (σ.prune root) := by
  refine ⟨h.heap, ?_, fun r => ?_, h.roots⟩
  · show Tr.get p (Tr.set root _ σ.fams) = none
    rw [Tr.get_set_ne (Ne.symm hr)]; exact h.fams
  · rw [famOf_prune]
    by_cases e : r = root
    · rw [if_pos e]; exact fun hm => h.lists root (mem_alive.1 hm).1
    · rw [if_neg e]; exact h.lists r
theorem append_fr (esz bytes : Nat) (s x : AVal) : FrW (appendA esz bytes s x) := by
  intro σ r σ' h
  unfold appendA at h
  obtain ⟨n, hn, h⟩ := andThen_eq.1 h
  cases n with
  | zero =>
    simp only at h
    obtain ⟨h1, h2⟩ := test_eq.1 h
    cases h2
    refine ⟨Nat.le_refl _, fun p blk hlt hf ho => ⟨hf, ?_⟩⟩
    unfold appendA; rw [hn]; simp only [andThen_some]; rw [h1]; rfl
  | succ n =>
    have hA : ∀ σ, appendA esz bytes s x σ = appN esz bytes (n + 1) s x σ := by
      intro σ; unfold appendA; rw [hn]; simp only [andThen_some, forceNat_eq, Nat.succ_eq_add_one]
    simp only [forceNat_eq, Nat.succ_eq_add_one] at h
    suffices hs : σ.next.nat ≤ σ'.next.nat ∧ ∀ p blk, p.nat < σ.next.nat → Free p σ → Own p blk → Free p σ' ∧ appN esz bytes (n + 1) s x (σ.lay p blk) = some (r, σ'.lay p blk) by
      refine ⟨hs.1, fun p blk hlt hf ho => ?_⟩
      rw [hA]; exact hs.2 p blk hlt hf ho
    generalize n + 1 = n at *
    clear hA
    unfold appN at h ⊢
    cases s with
    | nsl =>
      simp only at h ⊢
      unfold appNil at h ⊢
      obtain ⟨h1, h⟩ := test_eq.1 h
      obtain ⟨new, h2, h⟩ := andThen_eq.1 h
      obtain ⟨g1, g2⟩ := newFam_fr _ _ _ σ r σ' h
      refine ⟨g1, fun p blk hlt hf ho => ?_⟩
      obtain ⟨g3, g4⟩ := g2 p blk hlt hf ho
      refine ⟨g3, ?_⟩
      rw [h1, slRead_fr _ _ _ _ _ h2 p blk hf ho]
      exact g4
    | sl b o l c =>
      simp only at h ⊢
      unfold appSl at h ⊢
      cases hb : Nat.ble (l + n) c with
      | true =>
        rw [hb] at h
        simp only at h ⊢
        obtain ⟨new, h2, h⟩ := andThen_eq.1 h
        obtain ⟨σ1, h3, h⟩ := andThen_eq.1 h
        simp only [forceNat_eq] at h ⊢
        cases h
        obtain ⟨g1, g2⟩ := put_fr _ _ _ h3
        refine ⟨by rw [g1]; exact Nat.le_refl _, fun p blk hlt hf ho => ?_⟩
        obtain ⟨g3, g4⟩ := g2 p blk hf ho
        refine ⟨g3, ?_⟩
        rw [slRead_fr _ _ _ _ _ h2 p blk hf ho]
        simp only [andThen_some]
        rw [g4]; rfl
      | false =>
        rw [hb] at h
        simp only at h ⊢
        obtain ⟨h1, h⟩ := test_eq.1 h
        obtain ⟨old, h2, h⟩ := andThen_eq.1 h
        obtain ⟨new, h3, h⟩ := andThen_eq.1 h
        rw [appL_eq] at h
        obtain ⟨g1, g2⟩ := newFam_fr _ _ _ σ r σ' h
        refine ⟨g1, fun p blk hlt hf ho => ?_⟩
        obtain ⟨g3, g4⟩ := g2 p blk hlt hf ho
        refine ⟨g3, ?_⟩
        rw [h1, show rdN (σ.lay p blk) _ _ _ = _ from rdN_fr _ _ _ _ _ h2 p blk hf ho, slRead_fr _ _ _ _ _ h3 p blk hf ho]
        simp only [test_true, andThen_some, appL_eq]
        exact g4
    | slu b o l z =>
      simp only at h ⊢
      obtain ⟨h0, h⟩ := test_eq.1 h
      unfold appSlu at h ⊢
      obtain ⟨h1, h⟩ := test_eq.1 h
      obtain ⟨x', hb, h⟩ := andThen_eq.1 h
      obtain ⟨e, kind, cs⟩ := x'
      unfold appFam at h
      simp only at h
      cases kind with
      | fam root vb =>
        simp only at h
        obtain ⟨old, h2, h⟩ := andThen_eq.1 h
        obtain ⟨new, h3, h⟩ := andThen_eq.1 h
        rw [appL_eq, killK_eq] at h
        obtain ⟨⟨v1, σ1⟩, h9, hpr⟩ := andThen_eq.1 h
        simp only at hpr
        rw [pruneV_eq] at hpr
        cases hpr
        obtain ⟨nx, h4, rfl, rfl⟩ := layFam_fr h9
        refine ⟨Nat.le_of_lt (next_lt h4), fun p blk hlt hf ho => ?_⟩
        have hq : σ.next ≠ p := fun e => by subst e; omega
        have hroot := hf.roots _ _ root vb hb rfl
        have hr : ∀ root' vb', (⟨esz, .fam root (vb + o), old ++ new⟩ : Blk).kind = .fam root' vb' → root' ≠ p := by intro r' v' hk; cases hk; exact hroot
        constructor
        · have := ((hf.kill (from_ := vb + o + l * esz - 1) (but := σ.next) (l := famOf root σ.fams)).lay hq hr)
          exact Free.prune ⟨this.heap, this.fams, this.lists, this.roots⟩ hroot
        · rw [h0, h1, get_lay hf hb]
          simp only [test_true, andThen_some, appFam]
          rw [h2]
          simp only [andThen_some]
          rw [slRead_fr _ _ _ _ _ h3 p blk hf ho]
          simp only [andThen_some]
          have e1 : layFam (σ.lay p blk) esz root (vb + o) (l + n) (old ++ new) (kill (vb + o + l * esz - 1) (σ.lay p blk).next (famOf root (σ.lay p blk).fams) (σ.lay p blk).heap) =
              some (.slu σ.next 0 (l + n) esz, S.lay ⟨(S.lay ⟨kill (vb + o + l * esz - 1) σ.next (famOf root σ.fams) σ.heap, σ.next, σ.fams, σ.maps⟩ σ.next ⟨esz, .fam root (vb + o), old ++ new⟩).heap, nx,
                (S.lay ⟨kill (vb + o + l * esz - 1) σ.next (famOf root σ.fams) σ.heap, σ.next, σ.fams, σ.maps⟩ σ.next ⟨esz, .fam root (vb + o), old ++ new⟩).fams, σ.maps⟩ p blk) := by
            rw [famOf_lay ho hroot, lay_next, lay_heap, kill_set (hf.lists root)]
            rw [layFam_unf]
            rw [forceNat_eq, lay_eq]
            simp only [lay_next]
            rw [Pos.nextK_eq, h4]
            simp only [forceNat_eq]
            refine congrArg some (Prod.ext rfl (S.ext4 ?_ ?_ ?_ ?_))
            · simp only [lay_heap]; rw [Tr.set_comm hq]
            · simp only [lay_next]
            · simp only [lay_fams]; exact famsOf_comm ho hr
            · simp only [lay_maps]
          rw [appL_eq, killK_eq, e1]
          simp only [andThen_some]
          rw [pruneV_eq]
          refine congrArg some (Prod.ext rfl ?_)
          have hfree := (hf.kill (from_ := vb + o + l * esz - 1) (but := σ.next) (l := famOf root σ.fams)).lay hq hr
          exact prune_lay ⟨hfree.heap, hfree.fams, hfree.lists, hfree.roots⟩ ho hroot
      | ex => cases h
      | ro => cases h
    | _ => cases h
theorem copy_fr (esz : Nat) (d s : AVal) : FrW (copyA esz d s) := by
  intro σ r σ' h
  unfold copyA at h
  obtain ⟨a, ha, h⟩ := andThen_eq.1 h
  obtain ⟨b, hb, h⟩ := andThen_eq.1 h
  obtain ⟨hs, h⟩ := test_eq.1 h
  cases hm : minN a b with
  | zero =>
    rw [hm] at h
    simp only at h
    cases h
    refine ⟨Nat.le_refl _, fun p blk hlt hf ho => ⟨hf, ?_⟩⟩
    unfold copyA; rw [ha, hb]; simp only [andThen_some]; rw [hs, hm]; rfl
  | succ n =>
    rw [hm] at h
    simp only [forceNat_eq] at h
    obtain ⟨new, h1, h⟩ := andThen_eq.1 h
    have key : ∃ bb o, copyTo d n.succ σ new = (andThen (σ.put bb o new) fun σ => some (.int .i64 (.ofNat n.succ), σ)) ∧ ∀ σ, copyTo d n.succ σ new = andThen (σ.put bb o new) fun σ => some (.int .i64 (.ofNat n.succ), σ) := by
      unfold copyTo at h ⊢
      cases d <;> first | exact ⟨_, _, rfl, fun _ => rfl⟩ | cases h
    obtain ⟨bb, o, k1, k2⟩ := key
    rw [k1] at h
    obtain ⟨σ1, h2, h⟩ := andThen_eq.1 h
    cases h
    obtain ⟨g1, g2⟩ := put_fr _ _ _ h2
    refine ⟨by rw [g1]; exact Nat.le_refl _, fun p blk hlt hf ho => ?_⟩
    obtain ⟨g3, g4⟩ := g2 p blk hf ho
    refine ⟨g3, ?_⟩
    unfold copyA; rw [ha, hb]; simp only [andThen_some]; rw [hs, hm]
    simp only [forceNat_eq, test_true]
    rw [slRead_fr _ _ _ _ _ h1 p blk hf ho]
    simp only [andThen_some]
    rw [k2, g4]; rfl
theorem store_fr (n : Nat) (cs : List AVal) (x : AVal) : FrW (storeV n cs x) := by
  intro σ r σ' h
  unfold storeV at h ⊢
  cases x <;> simp only at h ⊢ <;> first | (cases h; done) | skip
  obtain ⟨h1, h⟩ := test_eq.1 h
  cases n with
  | zero =>
    simp only at h
    cases h
    exact ⟨Nat.le_refl _, fun p blk hlt hf ho => ⟨hf, by rw [h1]; rfl⟩⟩
  | succ n =>
    simp only at h
    obtain ⟨σ1, h2, h⟩ := andThen_eq.1 h
    cases h
    obtain ⟨g1, g2⟩ := put_fr _ _ _ h2
    refine ⟨by rw [g1]; exact Nat.le_refl _, fun p blk hlt hf ho => ?_⟩
    obtain ⟨g3, g4⟩ := g2 p blk hf ho
    exact ⟨g3, by rw [h1]; simp only [test_true]; rw [g4]; rfl⟩
/-! Maps. -/
theorem lay_putMaps {ms : Tr MBlk} : S.lay ⟨σ.heap, σ.next, σ.fams, ms⟩ p blk = ⟨(σ.lay p blk).heap, (σ.lay p blk).next, (σ.lay p blk).fams, ms⟩ := by
  rw [lay_eq, lay_eq]
theorem Free.maps {ms : Tr MBlk} (h : Free p σ) : Free p ⟨σ.heap, σ.next, σ.fams, ms⟩ := ⟨h.heap, h.fams, h.lists, h.roots⟩
theorem putMap_fr (b : Pos) (clock : Nat) (es : MEs) (v : AVal) : FrW (putMap b clock es v) := by
  intro σ r σ' h
  obtain ⟨rfl, rfl⟩ := putMap_eq h
  refine ⟨Nat.le_refl _, fun p blk _ hf _ => ⟨hf.maps, ?_⟩⟩
  rw [lay_putMaps (σ := σ) (p := p) (blk := blk) (ms := Tr.set b (some ⟨clock, es⟩) σ.maps)]
  cases hl : σ.lay p blk with
  | mk h n f ms =>
    have hm : ms = σ.maps := by have := lay_maps σ p blk; rw [hl] at this; exact this
    subst hm
    unfold putMap
    simp only [Tr.setK_eq]
theorem putMapN_fr (b : Pos) (clock : Nat) (v : AVal) (x : Bool × MEs) : FrW (fun σ => putMapN b clock v σ x) := by
  obtain ⟨n, es⟩ := x
  unfold putMapN
  cases n with
  | true => simp only [forceNat_eq]; exact putMap_fr _ _ _ _
  | false => exact putMap_fr _ _ _ _
theorem newMB_fr (clock : Nat) (es : MEs) (mk : Pos → AVal) : FrW (newMB clock es mk) := by
  intro σ r σ' h
  obtain ⟨nx, h1, rfl, rfl⟩ := newMB_eq h
  refine ⟨Nat.le_of_lt (next_lt h1), fun p blk _ hf _ => ⟨⟨hf.heap, hf.fams, hf.lists, hf.roots⟩, ?_⟩⟩
  have e : S.lay ⟨σ.heap, nx, σ.fams, Tr.set σ.next (some ⟨clock, es⟩) σ.maps⟩ p blk = ⟨(σ.lay p blk).heap, nx, (σ.lay p blk).fams, Tr.set σ.next (some ⟨clock, es⟩) σ.maps⟩ := by rw [lay_eq, lay_eq]
  rw [e]
  have hm := lay_maps σ p blk
  have hn := lay_next σ p blk
  cases hl : σ.lay p blk with
  | mk h n f ms =>
    rw [hl] at hm hn
    simp only at hm hn
    subst hm hn
    unfold newMB
    simp only [Pos.nextK_eq, h1, Tr.setK_eq]
theorem newMap_fr : FrW newMap := newMB_fr _ _ _
theorem FrW.no {α : Type} : FrW (fun _ => (Option.none : Option (α × S))) := fun _ _ _ h => by cases h
theorem FrW.thenO {α β : Type} (o : Option α) {F : α → S → Option (β × S)} (h : ∀ a, o = some a → FrW (F a)) : FrW (fun σ => Am.andThen o fun a => F a σ) := by
  cases o with
  | none => exact FrW.no
  | some a => exact h a rfl
theorem FrW.testO {β : Type} (b : Bool) {F : S → Option (β × S)} (h : FrW F) : FrW (fun σ => Am.test b (F σ)) := by
  cases b with
  | true => exact h
  | false => exact FrW.no
/-- A map looked up, then what is done with it. -/
theorem FrW.ofMap {β : Type} (b : Pos) {F : MBlk → S → Option (β × S)} (h : ∀ mb, FrW (F mb)) : FrW (fun σ => Am.andThen (Tr.get b σ.maps) fun mb => F mb σ) := by
  intro σ r σ' hv
  obtain ⟨mb, h1, h2⟩ := andThen_eq.1 hv
  obtain ⟨g1, g2⟩ := h mb σ r σ' h2
  refine ⟨g1, fun p blk hlt hf ho => ?_⟩
  obtain ⟨g3, g4⟩ := g2 p blk hlt hf ho
  refine ⟨g3, ?_⟩
  simp only
  rw [lay_maps, h1]; exact g4
theorem FrW.const' {α : Type} (r : α) : FrW (fun σ => some (r, σ)) := by
  intro σ r' σ' h; cases h
  exact ⟨Nat.le_refl _, fun p blk _ hf _ => ⟨hf, rfl⟩⟩
theorem setM_fr (g : Bool) (cs : List CK) (x k v : AVal) : FrW (setM g cs x k v) := by
  cases x <;> first | exact FrW.no | skip
  rename_i b
  refine FrW.ofMap b (F := fun mb σ => match mb with | ⟨clock, es⟩ => Am.test (genuine es) (Am.test (keyShape g cs k) (Am.test (isV1 v) (force k fun k => force v fun v => Am.andThen (mput g cs clock k v es) (putMapN b clock .undef σ))))) fun mb => ?_
  obtain ⟨clock, es⟩ := mb
  refine FrW.testO _ (FrW.testO _ (FrW.testO _ ?_))
  simp only [force_eq]
  exact FrW.thenO _ fun x _ => putMapN_fr _ _ _ x
theorem delM_fr (g : Bool) (cs : List CK) (x k : AVal) : FrW (delM g cs x k) := by
  refine FrW.testO _ (F := fun σ => match x with
    | .nmap => some (.undef, σ)
    | .map b => Am.andThen (Tr.get b σ.maps) fun mb => match mb with
      | ⟨clock, es⟩ => Am.test (genuine es) (Am.andThen (mrem g cs k es) fun es => putMap b clock es .undef σ)
    | _ => Option.none) ?_
  cases x <;> first | exact FrW.no | exact FrW.const' _ | skip
  rename_i b
  refine FrW.ofMap b (F := fun mb σ => match mb with | ⟨clock, es⟩ => Am.test (genuine es) (Am.andThen (mrem g cs k es) fun es => putMap b clock es .undef σ)) fun mb => ?_
  obtain ⟨clock, es⟩ := mb
  exact FrW.testO _ (FrW.thenO _ fun x _ => putMap_fr _ _ _ _)
theorem entM_fr (g : Bool) (cs : List CK) (z x k : AVal) : FrW (entM g cs z x k) := by
  cases x <;> first | exact FrW.no | skip
  rename_i b
  refine FrW.ofMap b (F := fun mb σ => match mb with | ⟨clock, es⟩ => Am.test (genuine es) (Am.test (keyShape g cs k) (Am.andThen (mget g cs k es) fun r => match r with
      | some x => match x with | (born, v) => some (.tup [v, .int .i64 (.ofNat born)], σ)
      | none => entNew g cs z b clock k es σ))) fun mb => ?_
  obtain ⟨clock, es⟩ := mb
  refine FrW.testO _ (FrW.testO _ (FrW.thenO _ fun r _ => ?_))
  cases r with
  | none =>
    simp only [entNew, force_eq]
    exact FrW.thenO _ fun x _ => putMapN_fr _ _ _ x
  | some x => exact FrW.const' _
theorem stampM_fr (x s v : AVal) : FrW (stampM x s v) := by
  cases x <;> first | exact FrW.no | skip
  rename_i b
  refine FrW.ofMap b (F := fun mb σ => match mb with
    | ⟨clock, es⟩ => match s with
      | .int _ n => Am.test (genuine es) (Am.test (isV1 v) (force v fun v => Am.andThen (mborn n v es) fun es => putMap b clock es .undef σ))
      | _ => Option.none) fun mb => ?_
  obtain ⟨clock, es⟩ := mb
  cases s <;> first | exact FrW.no | skip
  refine FrW.testO _ (FrW.testO _ ?_)
  simp only [force_eq]
  exact FrW.thenO _ fun x _ => putMap_fr _ _ _ _
theorem rangeM_fr (x : AVal) : FrW (rangeM x) := by
  cases x with
  | map b =>
    refine FrW.ofMap b (F := fun mb σ => match mb with | ⟨clock, es⟩ => Am.test (genuine es) (newMB clock [(clock, .map b, .tup [])] (fun p => .ptr p 0) σ)) fun mb => ?_
    obtain ⟨clock, es⟩ := mb
    exact FrW.testO _ (newMB_fr _ _ _)
  | nmap => exact newMB_fr 0 [(0, .nmap, .tup [])] fun p => .ptr p 0
  | _ => exact FrW.no
theorem nextOf_fr (p : Pos) (since last : Nat) (b : Pos) (seen : List AVal) (mb : MBlk) : FrW (fun σ => nextOf p since last b seen σ mb) := by
  obtain ⟨clock, es⟩ := mb
  unfold nextOf
  refine FrW.testO _ ?_
  cases seen with
  | nil => cases es with
    | nil => exact FrW.const' _
    | cons x r =>
      obtain ⟨born, k, v⟩ := x
      cases r with
      | nil => exact FrW.testO _ (FrW.testO _ (putMap_fr _ _ _ _))
      | cons _ _ => exact FrW.no
  | cons s t =>
    cases s <;> first | exact FrW.no | skip
    cases es with
    | nil => exact FrW.no
    | cons x r =>
      obtain ⟨born, k, v⟩ := x
      cases r with
      | nil => exact FrW.testO _ (FrW.testO _ (FrW.const' _))
      | cons _ _ => exact FrW.no
theorem nextM_fr (x : AVal) : FrW (nextM x) := by
  cases x <;> first | exact FrW.no | skip
  rename_i p o
  refine FrW.testO _ (F := fun σ => Am.andThen (Tr.get p σ.maps) fun mb => match mb with
    | ⟨since, es⟩ => Am.andThen (iterOf es) fun i => match i with
      | (last, src, seen) => match src with
        | .nmap => some (.tup [.bool false], σ)
        | .map b => Am.andThen (Tr.get b σ.maps) (nextOf p since last b seen σ)
        | _ => Option.none) ?_
  refine FrW.ofMap p (F := fun mb σ => match mb with
    | ⟨since, es⟩ => Am.andThen (iterOf es) fun i => match i with
      | (last, src, seen) => match src with
        | .nmap => some (.tup [.bool false], σ)
        | .map b => Am.andThen (Tr.get b σ.maps) (nextOf p since last b seen σ)
        | _ => Option.none) fun mb => ?_
  obtain ⟨since, es⟩ := mb
  refine FrW.thenO _ fun i _ => ?_
  obtain ⟨last, src, seen⟩ := i
  cases src <;> first | exact FrW.no | exact FrW.const' _ | skip
  rename_i b _
  exact FrW.ofMap b (F := fun mb σ => nextOf p since last b seen σ mb) fun mb => nextOf_fr _ _ _ _ _ _
theorem clrA_fr (z : List AVal) (x : AVal) : FrW (clrA z x) := by
  have key : ∀ b o n, FrW (clrTo b o n z) := by
    intro b o n
    cases n with
    | zero => exact FrW.const' _
    | succ n =>
      intro σ r σ' h
      unfold clrTo at h ⊢
      simp only [forceNat_eq] at h ⊢
      obtain ⟨σ1, h2, h⟩ := andThen_eq.1 h
      cases h
      obtain ⟨g1, g2⟩ := put_fr _ _ _ h2
      refine ⟨by rw [g1]; exact Nat.le_refl _, fun p blk hlt hf ho => ?_⟩
      obtain ⟨g3, g4⟩ := g2 p blk hf ho
      exact ⟨g3, by rw [g4]; rfl⟩
  cases x <;> first | exact FrW.no | exact FrW.const' _ | exact key _ _ _
def Framed (call : Caller) : Prop := ∀ f args, FrW (call f args)
theorem e_fr {call : Caller} (hc : Framed call) (q : EOp) (T : Tm) : FrW (evalE q call T) := by
  intro σ r σ' h
  cases q with
  | store n x v =>
    simp only [evalE, eStore] at h ⊢
    rw [headK_eq] at h
    obtain ⟨cs, h1, h⟩ := andThen_eq.1 h
    obtain ⟨g1, g2⟩ := store_fr n cs (x.ev T) σ r σ' h
    refine ⟨g1, fun p blk hlt hf ho => ?_⟩
    obtain ⟨g3, g4⟩ := g2 p blk hlt hf ho
    refine ⟨g3, ?_⟩
    rw [headK_eq, h1]; exact g4
  | append esz bytes s x => exact append_fr esz bytes _ _ σ r σ' h
  | copy esz d s => exact copy_fr esz _ _ σ r σ' h
  | call f args => exact hc f _ σ r σ' h
  | callV f args =>
    simp only [evalE, eCallV] at h ⊢
    unfold callVal at h
    split at h
    · rename_i f' caps hf'
      obtain ⟨g1, g2⟩ := hc _ _ σ r σ' h
      refine ⟨g1, fun p blk hlt hf ho => ?_⟩
      rw [hf']
      exact g2 p blk hlt hf ho
    · cases h
  | mmake q => exact FrW.testO (isMapR (evo T q)) newMap_fr σ r σ' h
  | mset g cs x k v => exact setM_fr g cs _ _ _ σ r σ' h
  | mdel g cs x k => exact delM_fr g cs _ _ σ r σ' h
  | ment g cs z x k => exact entM_fr g cs z _ _ σ r σ' h
  | mstamp x s v => exact stampM_fr _ _ _ σ r σ' h
  | clr e z x => exact clrA_fr z _ σ r σ' h
  | mrange x => exact rangeM_fr _ σ r σ' h
  | mnext x => exact nextM_fr _ σ r σ' h
end
end Go.Am
