/-
  New blocks. Conditions: none.
-/
import Derived.Test.YthnjfpfcnpefaaaGreatK10
namespace Go.Am
open Go.RowKit (Below)

noncomputable def upd (m : Mp) (p : Pos) (mi : MI) : Mp := fun q => if q = p then some mi else m q
theorem upd_same (m : Mp) (p : Pos) (mi : MI) : upd m p mi p = some mi := by simp [upd]
theorem upd_ne (m : Mp) {p q : Pos} (h : q ≠ p) (mi : MI) : upd m p mi q = m q := by simp [upd, h]
theorem upd_le {m : Mp} {p : Pos} (h : m p = none) (mi : MI) : m.le (upd m p mi) := by
  intro q mi' hq
  have : q ≠ p := fun e => by subst e; rw [h] at hq; cases hq
  rw [upd_ne m this]; exact hq
noncomputable def famsOf (kind : Kind) (p : Pos) (fams : Tr (List Pos)) : Tr (List Pos) := match kind with
  | .fam root _ => Tr.set root (some (p :: famOf root fams)) fams
  | _ => fams
theorem famAdd_eq {R : Type} (kind : Kind) (p : Pos) (fams : Tr (List Pos)) (k : Tr (List Pos) → R) : famAdd kind p fams k = k (famsOf kind p fams) := by
  cases kind with
  | ex => rfl
  | ro => rfl
  | fam root vb =>
    unfold famAdd famsOf
    simp only
    cases famOf root fams <;> simp only [Tr.setK_eq]
theorem lay_eq (σ : S) (p : Pos) (blk : Blk) : σ.lay p blk = ⟨Tr.set p (some blk) σ.heap, σ.next, famsOf blk.kind p σ.fams, σ.maps⟩ := by
  obtain ⟨e, k, cs⟩ := blk
  obtain ⟨hp, nx, fm, ms⟩ := σ
  show forces cs _ = _
  rw [forces_eq, Tr.setK_eq, famAdd_eq]
theorem layR_eq (σ : S) (p : Pos) (blk : Blk) : σ.layR p blk = σ.lay p blk := by
  rw [lay_eq]
  obtain ⟨e, k, cs⟩ := blk
  obtain ⟨hp, nx, fm, ms⟩ := σ
  unfold S.layR
  simp only [Tr.setK_eq, famAdd_eq]
theorem allocR_eq (σ : S) (blk : Blk) : σ.allocR blk = σ.alloc blk := by
  obtain ⟨hp, nx, fm, ms⟩ := σ
  unfold S.allocR S.alloc
  simp only [layR_eq]
theorem alloc_unf (σ : S) (blk : Blk) : σ.alloc blk = match σ.lay σ.next (blk.named σ.next) with
    | ⟨h, n, fams, ms⟩ => Pos.nextK n fun m => some (n, ⟨h, m, fams, ms⟩) := by
  cases σ; rfl
theorem layFam_unf (σ : S) (esz : Nat) (root : Pos) (vb n : Nat) (cells : List AVal) (h : Tr Blk) : layFam σ esz root vb n cells h =
    forceNat vb fun vb => match S.lay ⟨h, σ.next, σ.fams, σ.maps⟩ σ.next ⟨esz, .fam root vb, cells⟩ with
    | ⟨h, nx, fams, ms⟩ => Pos.nextK nx fun m => forceNat n fun n => some (.slu nx 0 n esz, ⟨h, m, fams, ms⟩) := by
  cases σ
  unfold layFam
  simp only [layR_eq]
/-! Families cut down to those that are there. -/
noncomputable def alive (l : List Pos) (h : Tr Blk) : List Pos := match l with
  | [] => []
  | p :: l => match Tr.get p h with
    | some _ => p :: alive l h
    | none => alive l h
theorem aliveK_eq (l : List Pos) (h : Tr Blk) (k : List Pos → Option (AVal × S)) : aliveK l h k = k (alive l h) := by
  induction l generalizing k with
  | nil => rfl
  | cons p l ih =>
    unfold aliveK alive
    cases Tr.get p h with
    | none => exact ih k
    | some _ => exact ih _
theorem mem_alive {q : Pos} {l : List Pos} {h : Tr Blk} : q ∈ alive l h ↔ q ∈ l ∧ Tr.get q h ≠ none := by
  induction l with
  | nil => simp [alive]
  | cons p l ih =>
    unfold alive
    cases hp : Tr.get p h with
    | none =>
      simp only
      rw [ih, List.mem_cons]
      refine ⟨fun ⟨h1, h2⟩ => ⟨.inr h1, h2⟩, fun ⟨h1, h2⟩ => ⟨h1.resolve_left fun e => h2 (by rw [e, hp]), h2⟩⟩
    | some x =>
      simp only
      rw [List.mem_cons, List.mem_cons, ih]
      constructor
      · rintro (rfl | ⟨h1, h2⟩)
        · exact ⟨.inl rfl, by rw [hp]; simp⟩
        · exact ⟨.inr h1, h2⟩
      · rintro ⟨rfl | h1, h2⟩
        · exact .inl rfl
        · exact .inr ⟨h1, h2⟩
noncomputable def S.prune (σ : S) (root : Pos) : S := ⟨σ.heap, σ.next, Tr.set root (some (alive (famOf root σ.fams) σ.heap)) σ.fams, σ.maps⟩
theorem pruneV_eq (root : Pos) (v : AVal) (σ : S) : pruneV root v σ = some (v, σ.prune root) := by
  obtain ⟨hp, nx, fm, ms⟩ := σ
  unfold pruneV
  simp only [aliveK_eq, Tr.setK_eq]
  rfl
theorem famOf_prune {σ : S} {root r : Pos} : famOf r (σ.prune root).fams = if r = root then alive (famOf root σ.fams) σ.heap else famOf r σ.fams := by
  show (match Tr.get r (Tr.set root _ σ.fams) with | some l => l | none => []) = _
  rw [Tr.get_set]
  by_cases e : r = root
  · rw [if_pos e, if_pos e]
  · rw [if_neg e, if_neg e]; rfl
theorem WR.prune {w0 w : World} {m : Mp} {σ : S} (hW : WR w0 m σ w) {root : Pos} (hr : root.nat < σ.next.nat) : WR w0 m (σ.prune root) w := by
  refine ⟨hW.below, hW.dom, hW.blk, hW.alias, fun b blk r vb hb hk => ?_, fun p hp => ?_, hW.mp, hW.mpi⟩
  · have := hW.fam b blk r vb hb hk
    rw [famOf_prune]
    by_cases e : r = root
    · rw [if_pos e]
      subst e
      exact mem_alive.2 ⟨this, by rw [show Tr.get b σ.heap = some blk from hb]; simp⟩
    · rw [if_neg e]; exact this
  · have hp : σ.next.nat ≤ p.nat := hp
    obtain ⟨h1, h2, h3⟩ := hW.tidy p hp
    refine ⟨?_, fun r => ?_, h3⟩
    · show Tr.get p (Tr.set root _ σ.fams) = none
      rw [Tr.get_set_ne (fun e => by subst e; omega)]; exact h1
    · rw [famOf_prune]
      by_cases e : r = root
      · rw [if_pos e]; exact fun hm => h2 root (mem_alive.1 hm).1
      · rw [if_neg e]; exact h2 r
/-- The memory behind a new block. -/
noncomputable def S.layAt (σ : S) (p : Pos) (blk : Blk) (nx : Pos) : S := ⟨Tr.set p (some blk) σ.heap, nx, famsOf blk.kind p σ.fams, σ.maps⟩
theorem Tidy.layAt {σ : S} (h : Tidy σ) {p nx : Pos} (hnx : σ.next.nat ≤ nx.nat) (hpn : p.nat < nx.nat) {blk : Blk} (hroot : ∀ root vb, blk.kind = .fam root vb → root.nat < nx.nat) : Tidy (σ.layAt p blk nx) := by
  intro q hq
  have hq : nx.nat ≤ q.nat := hq
  obtain ⟨h1, h2, h3⟩ := h q (by omega)
  have hqp : q ≠ p := fun e => by subst e; omega
  refine ⟨?_, ?_, ?_⟩
  · show Tr.get q (famsOf blk.kind p σ.fams) = none
    unfold famsOf
    split
    · rename_i r vb hk
      have := hroot r vb hk
      rw [Tr.get_set_ne (fun e => by subst e; omega)]; exact h1
    · exact h1
  · intro root
    show q ∉ famOf root (famsOf blk.kind p σ.fams)
    unfold famsOf
    split
    · rename_i r vb hk
      simp only [famOf]
      rw [Tr.get_set]
      by_cases e : root = r
      · rw [if_pos e]
        intro hm
        cases hm with
        | head => exact hqp rfl
        | tail _ hm => exact h2 r hm
      · rw [if_neg e]; exact h2 root
    · exact h2 root
  · intro b x root vb hb hk
    have hb : Tr.get b (Tr.set p (some blk) σ.heap) = some x := hb
    rw [Tr.get_set] at hb
    by_cases e : b = p
    · rw [if_pos e] at hb; cases hb
      have := hroot root vb hk
      exact fun e => by subst e; omega
    · rw [if_neg e] at hb; exact h3 b x root vb hb hk
theorem mem_famsOf {kind : Kind} {p q root : Pos} {fams : Tr (List Pos)} (h : q ∈ famOf root fams) : q ∈ famOf root (famsOf kind p fams) := by
  unfold famsOf
  cases kind with
  | ex => exact h
  | ro => exact h
  | fam r vb =>
    simp only [famOf] at h ⊢
    rw [Tr.get_set]
    by_cases e : root = r
    · subst e; rw [if_pos rfl]; exact List.mem_cons_of_mem _ h
    · rw [if_neg e]; exact h
theorem mem_famsOf_self {root p : Pos} {vb : Nat} {fams : Tr (List Pos)} : p ∈ famOf root (famsOf (.fam root vb) p fams) := by
  simp only [famsOf, famOf]
  rw [Tr.get_set_same]; exact List.mem_cons_self
theorem alloc_eq {σ σ' : S} {blk : Blk} {p : Pos} (h : σ.alloc blk = some (p, σ')) : p = σ.next ∧ ∃ nx, σ.next.next = some nx ∧ σ' = σ.layAt p (blk.named p) nx := by
  obtain ⟨hp, nx, fm, ms⟩ := σ
  unfold S.alloc at h
  simp only at h
  rw [lay_eq] at h
  simp only at h
  rw [Pos.nextK_eq] at h
  cases hn : nx.next with
  | none => rw [hn] at h; cases h
  | some nx' => rw [hn] at h; cases h; exact ⟨rfl, nx', rfl, rfl⟩
theorem named_cells (blk : Blk) (p : Pos) : (blk.named p).cells = blk.cells := by obtain ⟨e, k, c⟩ := blk; cases k <;> rfl
theorem named_ro (blk : Blk) (p : Pos) : (blk.named p).kind = .ro ↔ blk.kind = .ro := by obtain ⟨e, k, c⟩ := blk; cases k <;> simp [Blk.named]

section
variable {w0 w : World} {m : Mp} {σ : S}
/-- A NEW BLOCK. -/
theorem WR.add (hW : WR w0 m σ w) {p nx : Pos} (hp : m p = none) (hpn : p.nat < nx.nat) (hnx : σ.next.nat ≤ nx.nat) {blk : Blk} (hroot : ∀ root vb, blk.kind = .fam root vb → root.nat < nx.nat) {xs : Array Value} {ty : TypeId} {frz : Nat × Nat}
    (hc : ∀ (i : Nat) (v : AVal), blk.cells[i]? = some v → ∃ x, xs[i]? = some x ∧ SR m v x) (hfrz : ∀ i, i < xs.size → ¬ (frz.1 ≤ i ∧ i < frz.2)) {n : Nat} :
    WR w0 (upd m p ⟨w.heap.size, 0, xs.size⟩) (σ.layAt p blk nx) { w with heap := w.heap.push (.cells xs ty frz), drawn := n } := by
  have hle := upd_le hp ⟨w.heap.size, 0, xs.size⟩
  have hpush : ∀ k, k < w.heap.size → (w.heap.push (.cells xs ty frz))[k]? = w.heap[k]? := fun k hk => by rw [Array.getElem?_push, if_neg (by omega)]
  refine ⟨⟨hW.below.os, hW.below.tape, hW.below.output, ?_, ?_⟩, ?_, ?_, ?_, ?_, hW.tidy.layAt hnx hpn hroot, ?_, ?_⟩
  · have := hW.below.size; simp; omega
  · intro k hk
    have := hW.below.size
    show (w.heap.push (.cells xs ty frz))[k]? = _
    rw [hpush k (by omega)]; exact hW.below.block k hk
  · intro q mi hq
    by_cases e : q = p
    · subst e; rw [upd_same] at hq; cases hq; exact ⟨hpn, by simp⟩
    · rw [upd_ne m e] at hq
      have := hW.dom q mi hq
      refine ⟨?_, by simp; omega⟩
      show q.nat < nx.nat; omega
  · intro q bq hq
    have hq' : (if q = p then some blk else Tr.get q σ.heap) = some bq := by rw [← Tr.get_set]; exact hq
    by_cases e : q = p
    · rw [if_pos e] at hq'; cases hq'; subst e
      refine ⟨_, upd_same _ _ _, ⟨xs, ty, frz, by simp, rfl, ?_, .inr ⟨hW.below.size, hfrz⟩⟩⟩
      intro i v hv
      obtain ⟨x, hx, hs⟩ := hc i v hv
      exact ⟨x, by simpa using hx, hs.mono hle⟩
    · rw [if_neg e] at hq'
      obtain ⟨mi, k1, k2⟩ := hW.blk q bq hq'
      refine ⟨mi, by rw [upd_ne m e]; exact k1, ?_⟩
      obtain ⟨c, t, f, r1, r2, r3, r4⟩ := k2.cells
      have := (hW.dom q mi k1).2
      refine ⟨c, t, f, by show (w.heap.push _)[mi.c]? = _; rw [hpush _ this]; exact r1, r2, ?_, r4⟩
      intro i v hv
      obtain ⟨x, hx, hs⟩ := r3 i v hv
      exact ⟨x, hx, hs.mono hle⟩
  · intro q q' bq bq' mi1 mi2 hq hq' e1 e2 hne hcc
    have g1 : (if q = p then some blk else Tr.get q σ.heap) = some bq := by rw [← Tr.get_set]; exact hq
    have g2 : (if q' = p then some blk else Tr.get q' σ.heap) = some bq' := by rw [← Tr.get_set]; exact hq'
    by_cases c1 : q = p
    · subst c1
      have c2 : q' ≠ q := Ne.symm hne
      rw [upd_same] at e1; cases e1
      rw [upd_ne m c2] at e2
      have := (hW.dom q' mi2 e2).2
      simp only at hcc; omega
    · rw [upd_ne m c1] at e1
      rw [if_neg c1] at g1
      by_cases c2 : q' = p
      · subst c2
        rw [upd_same] at e2; cases e2
        have := (hW.dom q mi1 e1).2
        simp only at hcc; omega
      · rw [upd_ne m c2] at e2
        rw [if_neg c2] at g2
        exact hW.alias q q' bq bq' mi1 mi2 g1 g2 e1 e2 hne hcc
  · intro q bq root vb hq hk
    have g1 : (if q = p then some blk else Tr.get q σ.heap) = some bq := by rw [← Tr.get_set]; exact hq
    show q ∈ famOf root (famsOf blk.kind p σ.fams)
    by_cases c1 : q = p
    · rw [if_pos c1] at g1; cases g1; subst c1; rw [hk]; exact mem_famsOf_self
    · rw [if_neg c1] at g1; exact mem_famsOf (hW.fam q bq root vb g1 hk)
  · intro q mb hq
    obtain ⟨mi, k1, k2⟩ := hW.mp q mb hq
    have hlt := (hW.dom q mi k1).2
    obtain ⟨es, r1, r2⟩ := k2.obj
    exact ⟨mi, hle q mi k1, k2.own, es, by show (w.heap.push _)[mi.c]? = _; rw [hpush _ hlt]; exact r1, r2.mono hle⟩
  · intro q q' mb mb' mi mi' hq hq' e1 e2 hc
    obtain ⟨mi1, k1, _⟩ := hW.mp q mb hq
    obtain ⟨mi2, k2, _⟩ := hW.mp q' mb' hq'
    rw [hle q mi1 k1] at e1; cases e1
    rw [hle q' mi2 k2] at e2; cases e2
    exact hW.mpi q q' mb mb' _ _ hq hq' k1 k2 hc
end

/-- What an operation that makes a block comes to. -/
def ARuns (P : Program) (ρ : Operand → Value) (o : Oper) (w0 w : World) (m : Mp) (σ : S) (blk : Blk) (mk : Pos → AVal) : Prop :=
  ∀ p nx, m p = none → p.nat < nx.nat → σ.next.nat ≤ nx.nat → ∃ x w' mi, (execOp ρ o).run P w = .ok (.value x) w' ∧ WR w0 (upd m p mi) (σ.layAt p (blk.named p) nx) w' ∧ VR (upd m p mi) (mk p) x
section
variable {P : Program} {w0 w : World} {m : Mp} {σ : S} {T : Tm} {a : Act} {v : AVal} {dst : Option Tmp} {type : TypeId} {pos : String} {after : Array Edge} {guard : Option (Nat × Bool)} {blk : Blk} {mk : Pos → AVal}
theorem new_eq (w : World) (o : Obj) : ({ w with heap := w.heap.push o } : World) = { w with heap := w.heap.push o, drawn := w.drawn } := rfl
theorem a_alloc {t : TypeId} {z : List AVal} (hW : WR w0 m σ w) (hz : czero P t = some z) (hv : aAlloc z T = some (blk, mk)) : ARuns P a.eval ⟨dst, .alloc t, type, pos, after, guard⟩ w0 w m σ blk mk := by
  cases hv
  intro p nx h1 h2 h3
  obtain ⟨x, hx, hs, _⟩ := czero_run (P := P) (w := w) (m := m) hz
  refine ⟨.pointer (some ⟨w.heap.size, 0, none⟩), { w with heap := w.heap.push (.cells x.cells t (0, 0)) }, ⟨w.heap.size, 0, x.cells.size⟩, ?_, ?_, ?_⟩
  · simp [execOp, Instr.alloc, hx, newVar, newRow]
  · exact hW.add h1 h2 h3 (by simp [Blk.named]) (fun i v hv => by obtain ⟨y, hy, hs'⟩ := hs.get hv; exact ⟨y, by rw [← Array.getElem?_toList]; exact hy, hs'⟩) (fun i _ h => by simp at h)
  · exact (SR.ptr p 0 _ (upd_same _ _ _)).vr
theorem a_box {t : TypeId} {x : Operand} {y : Opd} (hW : WR w0 m σ w) (hT : TR m T a.tmps) (hx : copd x = some y) (hv : aBox y T = some (blk, mk)) : ARuns P a.eval ⟨dst, .box t x, type, pos, after, guard⟩ w0 w m σ blk mk := by
  unfold aBox at hv
  obtain ⟨cs, hcs, hv⟩ := andThen_eq.1 hv
  cases hv
  have hs := (copd_ok hT hx).cells hcs
  intro p nx h1 h2 h3
  refine ⟨.pointer (some ⟨w.heap.size, 0, none⟩), { w with heap := w.heap.push (.cells (a.eval x).cells t (0, 0)) }, ⟨w.heap.size, 0, (a.eval x).cells.size⟩, ?_, ?_, ?_⟩
  · simp [execOp, Instr.box, newVar, newRow]
  · exact hW.add h1 h2 h3 (by simp [Blk.named]) (fun i v hv => by obtain ⟨y, hy, hs'⟩ := hs.get hv; exact ⟨y, by rw [← Array.getElem?_toList]; exact hy, hs'⟩) (fun i _ h => by simp at h)
  · exact (SR.ptr p 0 _ (upd_same _ _ _)).vr
theorem repN_get {n k : Nat} {z : List AVal} (hk : z.length = k) (i : Nat) : (repN n z)[i]? = if i < n * k then z[i % k]? else none := by
  induction n generalizing i with
  | zero => simp [repN]
  | succ n ih =>
    rw [repN, List.getElem?_append]
    have e : (n + 1) * k = k + n * k := by rw [Nat.succ_mul]; omega
    by_cases h : i < z.length
    · rw [if_pos h, if_pos (by omega), Nat.mod_eq_of_lt (by omega)]
    · rw [if_neg h, ih, hk]
      by_cases h2 : i < (n + 1) * k
      · rw [if_pos (by omega), if_pos h2]
        congr 1
        rw [Nat.mod_eq_sub_mod (by omega : i ≥ k)]
      · rw [if_neg (by omega), if_neg h2]
theorem zeros_rel {n k : Nat} {z : List AVal} {zs : Array Value} (hs : SRs m z zs.toList) (hk : z.length = k) (hpos : 0 < k) :
    SRs m (repN n z) ((Array.range (n * k)).map (fun i => zs[i % zs.size]!)).toList := by
  have hl := hs.length
  have hzs : zs.size = k := by simpa [hk] using hl
  have hlen : (repN n z).length = n * k := by
    have : ∀ n, (repN n z).length = n * z.length := by
      intro n; induction n with
      | zero => simp [repN]
      | succ n ih => rw [repN, List.length_append, ih, Nat.succ_mul]; omega
    rw [this, hk]
  refine SRs.of_get (by simp [hlen]) ?_
  intro i v x hv hx
  rw [repN_get hk] at hv
  have hi : i < n * k := by
    by_cases h : i < n * k
    · exact h
    · rw [if_neg h] at hv; cases hv
  rw [if_pos hi] at hv
  obtain ⟨y, hy, hsy⟩ := hs.get hv
  have : x = y := by
    simp [hi, hzs] at hx
    have hm := Nat.mod_lt i hpos
    rw [getElem!_pos zs (i % k) (by omega)] at hx
    have h2 : zs.toList[i % k]? = some zs[i % k] := by simp [hzs, hm]
    rw [h2] at hy; cases hy; exact hx.symm
  rw [this]; exact hsy
theorem a_bslice {t e : TypeId} {n s : Nat} {z : List AVal} {parts : Array (Nat × Operand)} {ps : List (Nat × Nat × Opd)} (ht : P.underlying t = some (.slice e)) (hs : csize P e = some s) (hz : czero P e = some z)
    (hc : s = z.length ∧ 0 < s ∧ n * s ≤ 16777216) (hp : cparts (fun i => some (i * s, s)) parts.toList = some ps) (hW : WR w0 m σ w) (hT : TR m T a.tmps) (hv : aBslice s z n ps T = some (blk, mk)) :
    ARuns P a.eval ⟨dst, .buildSlice t n parts, type, pos, after, guard⟩ w0 w m σ blk mk := by
  unfold aBslice at hv
  obtain ⟨cs, hcs, hv⟩ := andThen_eq.1 hv
  cases hv
  obtain ⟨x, hx, hsx, hi⟩ := czero_run (P := P) (w := w) (m := m) hz
  obtain ⟨c1, c2, c3⟩ := hc
  have hxs : x.cells.size = s := by have := hsx.length; simp at this; omega
  have hrel := zeros_rel (n := n) hsx c1.symm c2
  obtain ⟨out, ho, hr⟩ := fill_run hT hp hrel hcs
  intro p nx h1 h2 h3
  refine ⟨.slice (some ⟨w.heap.size, 0, none⟩) n n, { w with heap := w.heap.push (.cells out e (0, 0)) }, ⟨w.heap.size, 0, out.size⟩, ?_, ?_, ?_⟩
  · have hfl : (parts.map fun (i, x) => (i, a.eval x)).toList = parts.toList.map fun p => (p.1, a.eval p.2) := by rw [Array.toList_map]
    have hlim : ¬ n * s > 2 ^ 24 := by omega
    have hr0 : ∀ f g : Nat → Value, n * s = 0 → Array.map f (Array.range (n * s)) = Array.map g (Array.range (n * s)) := by
      intro f g h; rw [h, show Array.range 0 = #[] from rfl]; simp
    simp only [execOp, Instr.buildSlice, Sem.run_bind, run_underlying ht, Result.andThen_ok, sizeOf_run hs, if_neg hlim]
    rw [hfl]
    by_cases h0 : n * s = 0
    · rw [if_pos h0, pure_bind, hr0 _ (fun i => x.cells[i % x.cells.size]!) h0, ho]
      simp [newRow]
    · rw [if_neg h0]
      simp only [Sem.run_bind, hx, Result.andThen_ok, pure_bind]
      rw [ho]
      simp [newRow]
  · exact hW.add h1 h2 h3 (by simp [Blk.named]) (fun i v hv => by obtain ⟨y, hy, hs'⟩ := hr.get hv; exact ⟨y, by rw [← Array.getElem?_toList]; exact hy, hs'⟩) (fun i _ h => by simp at h)
  · exact (SR.sl p 0 n n _ (upd_same _ _ _) (Nat.le_refl _)).vr
theorem a_mkslice {t e : TypeId} {i : TypeInfo} {z : List AVal} {l c : Operand} {l' c' : Opd} (ht : P.underlying t = some (.slice e)) (hi : P.info? e = some i) (hz : czero P e = some z)
    (hc : i.size = z.length ∧ 0 < i.size ∧ 0 < i.bytes) (hW : WR w0 m σ w) (hT : TR m T a.tmps) (hl : copd l = some l') (hcc : copd c = some c') (hv : aMkslice i.size i.bytes z l' c' T = some (blk, mk)) :
    ARuns P a.eval ⟨dst, .makeSlice t l c, type, pos, after, guard⟩ w0 w m σ blk mk := by
  unfold aMkslice at hv
  obtain ⟨⟨ln, cp⟩, hm, hv⟩ := andThen_eq.1 hv
  cases hv
  have rl := copd_ok hT hl
  have rc := copd_ok hT hcc
  obtain ⟨c1, c2, c3⟩ := hc
  have hlc : ∃ k k', a.eval l = .int k (Int.ofNat ln) ∧ a.eval c = .int k' (Int.ofNat cp) ∧ ln ≤ cp ∧ cp * i.bytes ≤ 1099511627776 ∧ cp ≤ 1099511627776 := by
    unfold mkLen at hm
    split at hm
    · rename_i k lv hlv
      split at hm
      · rename_i k' cv hcv
        rw [hlv] at rl; rw [hcv] at rc
        split at hm
        · split at hm
          · obtain ⟨hb, hm⟩ := test_eq.1 hm
            cases hm
            simp only [Bool.and_eq_true] at hb
            exact ⟨k, k', rl.int, rc.int, Nat.le_of_ble_eq_true hb.1, Nat.le_of_ble_eq_true hb.2.1, Nat.le_of_ble_eq_true hb.2.2⟩
          · cases hm
        · cases hm
      · cases hm
    · cases hm
  obtain ⟨k, k', e1, e2, b1, b2, b3⟩ := hlc
  obtain ⟨x, hx, hsx, _⟩ := czero_run (P := P) (w := w) (m := m) hz
  have hrel := zeros_rel (n := cp) hsx c1.symm c2
  intro p nx h1 h2 h3
  have hsz : (sizeOf e).run P w = .ok i.size w := sizeOf_run (by simp [csize, hi])
  have hwl : IntKind.i64.wrap (Int.ofNat ln) = Int.ofNat ln := IntWalk.i64_in _ ⟨by show (-9223372036854775808 : Int) ≤ (ln : Int); omega, by show (ln : Int) ≤ _; omega⟩
  have hwc : IntKind.i64.wrap (Int.ofNat cp) = Int.ofNat cp := IntWalk.i64_in _ ⟨by show (-9223372036854775808 : Int) ≤ (cp : Int); omega, by show (cp : Int) ≤ _; omega⟩
  have hr0 : ∀ f g : Nat → Value, cp * i.size = 0 → Array.map f (Array.range (cp * i.size)) = Array.map g (Array.range (cp * i.size)) := by
    intro f g h; rw [h, show Array.range 0 = #[] from rfl]; simp
  refine ⟨.slice (some ⟨w.heap.size, 0, none⟩) ln cp, { w with heap := w.heap.push (.cells ((Array.range (cp * i.size)).map (fun j => x.cells[j % x.cells.size]!)) e (0, 0)) }, ⟨w.heap.size, 0, ((Array.range (cp * i.size)).map (fun j => x.cells[j % x.cells.size]!)).size⟩, ?_, ?_, ?_⟩
  · have t1 : ¬ (Int.ofNat cp < 0) := by simp
    have t2 : ¬ ((i.bytes : Int) * Int.ofNat cp > 2 ^ 48) := by
      have : ((i.bytes : Int) * Int.ofNat cp) = ((cp * i.bytes : Nat) : Int) := by simp [Int.mul_comm]
      rw [this]; omega
    have t3 : ¬ (Int.ofNat ln < 0) := by simp
    have t4 : ¬ (Int.ofNat ln > Int.ofNat cp) := by simp; omega
    have tl : (decide (Int.ofNat cp < 0) || decide ((i.bytes : Int) * Int.ofNat cp > 2 ^ 48)) = false := by simp only [t1, t2, decide_false, Bool.or_false]
    have tt : ((decide (Int.ofNat cp < 0) || decide ((i.bytes : Int) * Int.ofNat cp > 2 ^ 48)) || decide (Int.ofNat ln < 0) || decide (Int.ofNat ln > Int.ofNat cp)) = false := by
      rw [tl]; simp only [t3, t4, decide_false, Bool.or_false]
    have hti : (typeInfo e).run P w = .ok i w := by simp [typeInfo, hi]
    have hai : ∀ k n, (asInt (.int k n)).run P w = .ok n w := by intro k n; simp [asInt, asIntOf]
    simp only [execOp, e1, e2, Instr.makeSlice, Sem.run_bind, run_underlying ht, Result.andThen_ok, hai, hti, hwl, hwc, tt, Bool.false_eq_true, if_false, run_askRoom, hsz]
    have hcp : (Int.ofNat cp).toNat = cp := rfl
    have hln : (Int.ofNat ln).toNat = ln := rfl
    rw [hcp, hln]
    by_cases h0 : cp * i.size = 0
    · rw [if_pos h0, pure_bind, hr0 _ (fun i => x.cells[i % x.cells.size]!) h0]
      simp [newRow]
    · rw [if_neg h0]
      simp only [Sem.run_bind, hx, Result.andThen_ok, pure_bind]
      simp [newRow]
  · exact hW.add h1 h2 h3 (by simp [Blk.named]) (fun i v hv => by obtain ⟨y, hy, hs'⟩ := hrel.get hv; exact ⟨y, by rw [← Array.getElem?_toList]; exact hy, hs'⟩) (fun i _ h => by simp at h)
  · exact (SR.sl p 0 ln cp _ (upd_same _ _ _) b1).vr
end
end Go.Am
