/-
  The worlds, and the operations that change nothing. Conditions: none.
-/
import Derived.Test.YthnjfpfcnpefaaaGreatK3
import Derived.Laws.Cells
import Derived.Laws.Entries
import Derived.Laws.Strings
namespace Go.Am
open Go.RowKit (Below)

def Kin (k : Kind) (mi : MI) (k' : Kind) (mi' : MI) : Prop :=
  (k = .ro ∧ k' = .ro) ∨ ∃ root vb vb', k = .fam root vb ∧ k' = .fam root vb' ∧ mi.base + vb' = mi'.base + vb
structure BR (w0 : World) (m : Mp) (mi : MI) (blk : Blk) (w : World) : Prop where
  cells : ∃ cells ty frz, w.heap[mi.c]? = some (.cells cells ty frz) ∧ cells.size = mi.size ∧
    (∀ (i : Nat) (v : AVal), blk.cells[i]? = some v → ∃ x, cells[mi.base + i]? = some x ∧ SR m v x) ∧
    (blk.kind = .ro ∨ (w0.heap.size ≤ mi.c ∧ ∀ i, i < mi.size → ¬ (frz.1 ≤ i ∧ i < frz.2)))
/-- Names from the next one on are nobody's. -/
def Tidy (σ : S) : Prop := ∀ p : Pos, σ.next.nat ≤ p.nat → Tr.get p σ.fams = none ∧ (∀ root, p ∉ famOf root σ.fams) ∧ ∀ b blk root vb, Tr.get b σ.heap = some blk → blk.kind = .fam root vb → root ≠ p
theorem Tidy.sub {σ σ' : S} (h : Tidy σ) (hn : σ'.next = σ.next) (hf : σ'.fams = σ.fams) (hh : ∀ q bq, Tr.get q σ'.heap = some bq → ∃ bq', Tr.get q σ.heap = some bq' ∧ bq'.kind = bq.kind) : Tidy σ' := by
  intro p hp
  rw [hn] at hp
  obtain ⟨h1, h2, h3⟩ := h p hp
  refine ⟨by rw [hf]; exact h1, by rw [hf]; exact h2, fun b blk root vb hb hk => ?_⟩
  obtain ⟨bq', g1, g2⟩ := hh b blk hb
  exact h3 b bq' root vb g1 (by rw [g2]; exact hk)
/-- Entries of a map. -/
inductive ERs (m : Mp) : MEs → List MapEntry → Prop
  | nil : ERs m [] []
  | cons (b : Nat) (k v : AVal) (e : MapEntry) (l : MEs) (r : List MapEntry) (hb : e.born = b) (hk : V1 m k e.key) (hv : V1 m v e.val) (hs : ERs m l r) : ERs m ((b, k, v) :: l) (e :: r)
theorem ERs.mono {m m' : Mp} (hm : m.le m') {l : MEs} {r : List MapEntry} (h : ERs m l r) : ERs m' l r := by
  induction h with
  | nil => exact .nil
  | cons b k v e l r hb hk hv _ ih => exact .cons b k v e l r hb (hk.mono hm) (hv.mono hm) ih
theorem ERs.length {m : Mp} {l : MEs} {r : List MapEntry} (h : ERs m l r) : r.length = l.length := by
  induction h with
  | nil => rfl
  | cons b k v e l r hb hk hv _ ih => simp [ih]
/-- A map, or a range over one. -/
inductive MO (m : Mp) (mb : MBlk) (mi : MI) : Obj → Prop
  | map (es : Array MapEntry) (hr : ERs m mb.es es.toList) (hg : ∀ x ∈ mb.es, goodKey x.2.1 = true) : MO m mb mi (.map es mb.clock)
  | none (last : Nat) (seen : List AVal) (hb : mi.base = 0) (he : mb.es = [(last, .nmap, .tup seen)]) : MO m mb mi (.mapIter none 0 #[] 0)
  | iter (last : Nat) (b : Pos) (mj : MI) (ss : List Nat) (hb : mi.base = 0) (hm : m b = some mj) (he : mb.es = [(last, .map b, .tup (ss.map fun n => .int .i64 (.ofNat n)))]) : MO m mb mi (.mapIter (some mj.c) mb.clock ss.toArray last)
theorem MO.mono {m m' : Mp} (h : m.le m') {mb : MBlk} {mi : MI} {o : Obj} (k : MO m mb mi o) : MO m' mb mi o := by
  cases k with
  | map es hr hg => exact .map es (hr.mono h) hg
  | none last seen hb he => exact .none last seen hb he
  | iter last b mj ss hb hm he => exact .iter last b mj ss hb (h b mj hm) he
theorem MO.cells {m : Mp} {mb : MBlk} {mi : MI} {cs : Array Value} {t : TypeId} {f : Nat × Nat} (k : MO m mb mi (.cells cs t f)) : False := by cases k
structure MR (w0 : World) (m : Mp) (mi : MI) (mb : MBlk) (w : World) : Prop where
  own : w0.heap.size ≤ mi.c
  obj : ∃ o, w.heap[mi.c]? = some o ∧ MO m mb mi o
structure WR (w0 : World) (m : Mp) (σ : S) (w : World) : Prop where
  below : Below w0.heap.size w0 w
  dom : ∀ b mi, m b = some mi → b.nat < σ.next.nat ∧ mi.c < w.heap.size
  blk : ∀ b blk, Tr.get b σ.heap = some blk → ∃ mi, m b = some mi ∧ BR w0 m mi blk w
  alias : ∀ b b' blk blk' mi mi', Tr.get b σ.heap = some blk → Tr.get b' σ.heap = some blk' → m b = some mi → m b' = some mi' → b ≠ b' → mi.c = mi'.c →
    Kin blk.kind mi blk'.kind mi'
  fam : ∀ b blk root vb, Tr.get b σ.heap = some blk → blk.kind = .fam root vb → b ∈ famOf root σ.fams
  tidy : Tidy σ
  mp : ∀ b mb, Tr.get b σ.maps = some mb → ∃ mi, m b = some mi ∧ MR w0 m mi mb w
  mpi : ∀ b b' mb mb' mi mi', Tr.get b σ.maps = some mb → Tr.get b' σ.maps = some mb' → m b = some mi → m b' = some mi' → mi.c = mi'.c → b = b'

section
variable {w0 w : World} {m : Mp} {σ : S}
theorem WR.get (h : WR w0 m σ w) {b : Pos} {blk : Blk} (hb : Tr.get b σ.heap = some blk) {mi : MI} (hm : m b = some mi) : BR w0 m mi blk w := by
  obtain ⟨mi', h', hb'⟩ := h.blk b blk hb
  rw [hm] at h'; cases h'; exact hb'
theorem WR.cell (h : WR w0 m σ w) {b : Pos} {blk : Blk} (hb : Tr.get b σ.heap = some blk) {mi : MI} (hm : m b = some mi) {i : Nat} {v : AVal} (hv : blk.cells[i]? = some v) :
    ∃ x, w.cell? ⟨mi.c, mi.base + i, none⟩ = some x ∧ SR m v x := by
  obtain ⟨cells, ty, frz, h1, _, h2, _⟩ := (h.get hb hm).cells
  obtain ⟨x, hx, hs⟩ := h2 i v hv
  exact ⟨x, by simp [World.cell?, h1, hx], hs⟩
theorem WR.drawn (h : WR w0 m σ w) (n : Nat) : WR w0 m σ { w with drawn := n } :=
  ⟨⟨h.below.os, h.below.tape, h.below.output, h.below.size, h.below.block⟩, h.dom, fun b blk hb => let ⟨mi, h1, h2⟩ := h.blk b blk hb; ⟨mi, h1, ⟨h2.cells⟩⟩, h.alias, h.fam, h.tidy, fun b mb hb => let ⟨mi, h1, h2⟩ := h.mp b mb hb; ⟨mi, h1, ⟨h2.own, h2.obj⟩⟩, h.mpi⟩
end

/-- A read of several cells. -/
theorem WR.read {w0 w : World} {m : Mp} {σ : S} (h : WR w0 m σ w) {b : Pos} {o n : Nat} {cs : List AVal} (hr : σ.read b o n = some cs) {mi : MI} (hm : m b = some mi) (P : Program) :
    ∃ xs : List Value, (loadCells ⟨mi.c, mi.base + o, none⟩ n).run P w = .ok xs.toArray w ∧ SRs m cs xs ∧ xs.length = n := by
  obtain ⟨blk, hb, hn, rfl⟩ := read_eq.1 hr
  have key : ∀ i, i < n → ∃ v, blk.cells[o + i]? = some v := fun i hi => by
    have : o + i < blk.cells.length := by omega
    exact ⟨blk.cells[o + i], by simp [this]⟩
  have hc : ∀ i, i < n → ∃ v x, blk.cells[o + i]? = some v ∧ w.cell? ⟨mi.c, mi.base + (o + i), none⟩ = some x ∧ SR m v x := fun i hi => by
    obtain ⟨v, hv⟩ := key i hi
    obtain ⟨x, hx, hs⟩ := h.cell hb hm hv
    exact ⟨v, x, hv, hx, hs⟩
  let f : Nat → Value := fun i => (w.cell? ⟨mi.c, mi.base + (o + i), none⟩).getD undef
  have hf : ∀ j, j < n → w.cell? (Addr.add ⟨mi.c, mi.base + o, none⟩ j) = some (f j) := fun j hj => by
    obtain ⟨v, x, _, hx, _⟩ := hc j hj
    rw [Addr.add_lit, Nat.add_assoc]
    simp only [f, hx]; rfl
  refine ⟨(List.range n).map f, ?_, ?_, by simp⟩
  · rw [run_loadCells (P := P) (w := w) _ n f hf]
  · refine SRs.of_get ?_ ?_
    · simp; omega
    · intro i v x hv hx
      have hi : i < n := by
        have := (List.getElem?_eq_some_iff.1 hx).1; simpa using this
      obtain ⟨v', x', h1, h2, h3⟩ := hc i hi
      have e1 : v = v' := by
        simp [hi, List.getElem?_drop] at hv
        rw [h1] at hv; cases hv; rfl
      have e2 : x = x' := by
        simp [hi, f, h2] at hx; exact hx.symm
      rw [e1, e2]; exact h3

/-- What an operation that changes nothing comes to. -/
def QRuns (P : Program) (ρ : Operand → Value) (o : Oper) (w : World) (m : Mp) (v : AVal) : Prop := ∃ x, (execOp ρ o).run P w = .ok (.value x) w ∧ VR m v x
theorem runV {P : Program} {w : World} {s : Sem Value} {x : Value} (h : s.run P w = .ok x w) : (do let y ← s; pure (Next.value y) : Sem Next).run P w = .ok (.value x) w := by
  simp [h]
section
variable {P : Program} {w0 w : World} {m : Mp} {σ : S} {T : Tm} {a : Act} {v : AVal} {dst : Option Tmp} {type : TypeId} {pos : String} {after : Array Edge} {guard : Option (Nat × Bool)}
theorem copd_of {op : Operand} {f : Opd → KOp} {k : KOp} (h : (do let y ← copd op; pure (f y)) = some k) : ∃ y, copd op = some y ∧ f y = k := by
  cases hc : copd op with
  | none => rw [hc] at h; cases h
  | some y => rw [hc] at h; cases h; exact ⟨y, rfl, rfl⟩
theorem sim_mov {x : Operand} {y : Opd} (hT : TR m T a.tmps) (hx : copd x = some y) (hv : qMov y T σ = some v) : QRuns P a.eval ⟨dst, .move x, type, pos, after, guard⟩ w m v := by
  unfold qMov at hv; rw [headK_eq] at hv; cases hv
  exact ⟨_, rfl, copd_ok hT hx⟩
theorem sim_assign {x : Operand} {y : Opd} (hT : TR m T a.tmps) (hx : copd x = some y) (hv : qMov y T σ = some v) : QRuns P a.eval ⟨dst, .assign x, type, pos, after, guard⟩ w m v := by
  unfold qMov at hv; rw [headK_eq] at hv; cases hv
  exact ⟨_, rfl, copd_ok hT hx⟩
theorem VR.bool {b : Bool} {x : Value} (h : VR m (.bool b) x) : x = .bool b := by
  cases h with | v1 _ _ h => cases h with | one _ _ h => cases h; rfl
theorem VR.int {k : IntKind} {n : Int} {x : Value} (h : VR m (.int k n) x) : x = .int k n := by
  cases h with | v1 _ _ h => cases h with | one _ _ h => cases h; rfl
theorem VR.str {s : List Nat} {x : Value} (h : VR m (.str s) x) : ∃ t, x = .string t ∧ t.data.toList.map (·.toNat) = s := by
  cases h with | v1 _ _ h => cases h with | one _ _ h => cases h with | str _ t h => exact ⟨t, rfl, h⟩
theorem VR.ptr {b : Pos} {o : Nat} {x : Value} (h : VR m (.ptr b o) x) : ∃ mi, m b = some mi ∧ x = .pointer (some ⟨mi.c, mi.base + o, none⟩) := by
  cases h with | v1 _ _ h => cases h with | one _ _ h => cases h with | ptr _ _ mi h => exact ⟨mi, h, rfl⟩
theorem VR.nptr {x : Value} (h : VR m .nptr x) : x = .pointer none := by
  cases h with | v1 _ _ h => cases h with | one _ _ h => cases h; rfl
theorem VR.nsl {x : Value} (h : VR m .nsl x) : x = .slice none 0 0 := by
  cases h with | v1 _ _ h => cases h with | one _ _ h => cases h; rfl
theorem VR.sl {b : Pos} {o l c : Nat} {x : Value} (h : VR m (.sl b o l c) x) : ∃ mi, m b = some mi ∧ l ≤ c ∧ x = .slice (some ⟨mi.c, mi.base + o, none⟩) l c := by
  cases h with | v1 _ _ h => cases h with | one _ _ h => cases h with | sl _ _ _ _ mi h hc => exact ⟨mi, h, hc, rfl⟩
theorem VR.slu {b : Pos} {o l e : Nat} {x : Value} (h : VR m (.slu b o l e) x) : ∃ mi a cap, m b = some mi ∧ l ≤ cap ∧ (a = (⟨mi.c, mi.base + o, none⟩ : Addr) ∨ (l = 0 ∧ cap = 0)) ∧ (cap = 0 ∨ mi.base + o + cap * e ≤ mi.size) ∧
    x = .slice (some a) l cap := by
  cases h with | v1 _ _ h => cases h with | one _ _ h => cases h with | slu _ _ _ _ mi a cap h h1 h2 h3 => exact ⟨mi, a, cap, h, h1, h2, h3, rfl⟩
theorem VR.func {f : Nat} {caps : List AVal} {x : Value} (h : VR m (.func f caps) x) : ∃ cs, x = .func (.func f) #[] cs ∧ SRs m caps cs.toList := by
  cases h with | v1 _ _ h => cases h with | one _ _ h => cases h with | func _ _ cs h => exact ⟨cs, rfl, h⟩
theorem VR.agg {xs : List AVal} {x : Value} (h : VR m (.agg xs) x) : ∃ ys, x = .agg ys ∧ SRs m xs ys.toList := by
  cases h with | v1 _ _ h => cases h with
    | one _ _ h => cases h
    | agg _ ys h => exact ⟨ys, rfl, h⟩
theorem VR.tup' {xs : List AVal} {x : Value} (h : VR m (.tup xs) x) : ∃ ys, x = .tuple ys ∧ V1s m xs ys.toList := by
  cases h with
  | v1 _ _ h => cases h with | one _ _ h => cases h
  | tup _ ys h => exact ⟨ys, rfl, h⟩
theorem sim_pick {x y z : Operand} {x' y' z' : Opd} (hT : TR m T a.tmps) (hx : copd x = some x') (hy : copd y = some y') (hz : copd z = some z') (hv : qPick x' y' z' T σ = some v) :
    QRuns P a.eval ⟨dst, .pick x y z, type, pos, after, guard⟩ w m v := by
  unfold qPick at hv
  obtain ⟨u, hu, hv⟩ := andThen_eq.1 hv
  rw [headK_eq] at hv; cases hv
  have hx' := copd_ok hT hx
  revert hu hx'
  generalize x'.ev T = c
  intro hu hx'
  unfold vPick at hu
  split at hu
  · rename_i t
    have := hx'.bool
    cases t <;> cases hu
    · exact ⟨_, by simp [execOp, this, asBool], copd_ok hT hz⟩
    · exact ⟨_, by simp [execOp, this, asBool], copd_ok hT hy⟩
  · cases hu
theorem sim_nilck {x : Operand} {y : Opd} (hT : TR m T a.tmps) (hx : copd x = some y) (hv : qNilck y T σ = some v) : QRuns P a.eval ⟨dst, .nilCheck x, type, pos, after, guard⟩ w m v := by
  have hx' := copd_ok hT hx
  unfold qNilck at hv
  revert hv hx'
  generalize y.ev T = c
  generalize ho : a.eval x = u
  intro hv hx'
  refine ⟨u, ?_, ?_⟩
  · have : ∀ c, vNilck c = some v → VR m c u → (execOp a.eval ⟨dst, .nilCheck x, type, pos, after, guard⟩).run P w = .ok (.value u) w := by
      intro c hv hx'
      simp only [execOp, ho]
      cases hx' with
      | v1 _ _ h => cases h with
        | one _ _ h => cases h <;> first | rfl | (simp [vNilck] at hv)
        | agg _ _ h => rfl
      | tup _ _ h => rfl
    exact this c hv hx'
  · have : c = v := by cases c <;> simp [vNilck] at hv <;> exact hv
    rw [← this]; exact hx'
theorem isAggB_run (t : TypeId) (h : (P.underlying t).isSome = true) : (isAgg t).run P w = .ok (isAggB P t) w := by
  cases hu : P.underlying t with
  | none => rw [hu] at h; cases h
  | some d => unfold isAgg isAggB; simp only [Sem.run_bind, run_underlying hu, Result.andThen_ok]; rw [hu]; cases d <;> rfl
theorem sizeOf_run {t : TypeId} {n : Nat} (h : csize P t = some n) : (sizeOf t).run P w = .ok n w := by
  unfold csize at h
  cases hi : P.info? t with
  | none => rw [hi] at h; cases h
  | some i => rw [hi] at h; cases h; simp [sizeOf, typeInfo, hi]
theorem isAggB_some {t : TypeId} (h : isAggB P t = true) : (P.underlying t).isSome = true := by
  unfold isAggB at h; cases hu : P.underlying t with
  | none => rw [hu] at h; cases h
  | some d => rfl
theorem sim_load1 {t : TypeId} {x : Operand} {y : Opd} (hW : WR w0 m σ w) (hT : TR m T a.tmps) (ha : isAggB P t = false) (hu : (P.underlying t).isSome = true) (hx : copd x = some y)
    (hv : qLoad y T σ = some v) : QRuns P a.eval ⟨dst, .load t x, type, pos, after, guard⟩ w m v := by
  have hx' := copd_ok hT hx
  unfold qLoad at hv
  unfold vLoad1 at hv
  split at hv
  · rename_i b o hp
    rw [hp] at hx'
    obtain ⟨mi, hm, ho⟩ := hx'.ptr
    obtain ⟨blk, hb, hn⟩ := andThen_eq.1 hv
    rw [nthV_eq] at hn
    obtain ⟨z, hz, hs⟩ := hW.cell hb hm hn
    refine ⟨z, ?_, hs.vr⟩
    simp [execOp, ho, Instr.loadAt, Instr.sureAddr, loadVar, isAggB_run t hu, ha, hz]
  · cases hv
theorem sim_loadN {t : TypeId} {x : Operand} {y : Opd} {n : Nat} (hW : WR w0 m σ w) (hT : TR m T a.tmps) (ha : isAggB P t = true) (hn : csize P t = some n) (hx : copd x = some y)
    (hv : qLoadN n y T σ = some v) : QRuns P a.eval ⟨dst, .load t x, type, pos, after, guard⟩ w m v := by
  have hx' := copd_ok hT hx
  unfold qLoadN at hv
  unfold vLoadN at hv
  split at hv
  · rename_i b o hp
    rw [hp] at hx'
    obtain ⟨mi, hm, ho⟩ := hx'.ptr
    obtain ⟨cs, hr, hn'⟩ := andThen_eq.1 hv
    cases hn'
    obtain ⟨xs, h1, h2, _⟩ := hW.read hr hm P
    refine ⟨.agg xs.toArray, ?_, .v1 _ _ (.agg _ _ (by simpa using h2))⟩
    simp [execOp, ho, Instr.loadAt, Instr.sureAddr, loadVar, isAggB_run t (isAggB_some ha), ha, sizeOf_run hn, h1]
  · cases hv
end
end Go.Am
