/-
  THE EVALUATOR IS SOUND: what it answers, calls come to, on every tape. Conditions: none.
-/
import Derived.Test.YtegejaikekgicaaK23
namespace Go.Am
open Go.RowKit (Below)
section
variable {P : Program} {w0 w : World} {m : Mp} {σ σ' : S} {T T' : Tm} {a : Act} {v : AVal} {call : Caller} {nt : Nat}
theorem rowsOf_get {ops : Array Oper} : ∀ (l : List Oper) (i : Nat) (as : List (List Nat)) (rows : List Row), rowsOf P nt ops l i as = some rows → ∀ (k : Nat) (r : Row), rows[k]? = some r → ∃ o, l[k]? = some o ∧ cpop P nt ops o = some r.p ∧ r.pre = preOf o
  | [], i, as, rows, h, k, r, hr => by cases h; simp at hr
  | o :: l, i, as, rows, h, k, r, hr => by
    simp only [rowsOf] at h
    split at h
    · rename_i p rs h1 h2
      split at h
      · cases h
        cases k with
        | zero => simp at hr; subst hr; exact ⟨o, rfl, h1, rfl⟩
        | succ k => exact rowsOf_get l _ _ _ h2 k r (by simpa using hr)
      · cases h
    · cases h
theorem drowsOf_mem {rows : List Row} : ∀ (order : List (Nat × List Nat)) (l : List DRow), drowsOf rows order = some l → ∀ d ∈ l, ∃ r, rows[d.ix]? = some r ∧ d.p = r.p ∧ d.pre = r.pre
  | [], l, h, d, hd => by cases h; cases hd
  | (i, cks) :: order, l, h, d, hd => by
    simp only [drowsOf] at h
    split at h
    · rename_i r l' h1 h2
      cases h
      cases hd with
      | head => exact ⟨r, h1, rfl, rfl⟩
      | tail _ hd => exact drowsOf_mem order l' h2 d hd
    · cases h
theorem pairsOk_pairs {all : List DRow} : ∀ {l : List DRow}, pairsOk all l = true → l.Pairwise (Pair all)
  | [], _ => .nil
  | x :: l, h => by
    unfold pairsOk at h
    simp only [Bool.and_eq_true, List.all_eq_true] at h
    exact .cons (fun y hy => pairOk_pair (h.1 y hy)) (pairsOk_pairs h.2)
theorem topo_ok : ∀ {l : List DRow} {done : List Nat} {L : Nat → Prop}, (∀ j ∈ done, L j) → topo done l = true → Topo L l
  | [], _, _, _, _ => trivial
  | x :: l, done, L, hd, h => by
    unfold topo at h
    simp only [Bool.and_eq_true, List.all_eq_true] at h
    refine ⟨fun j hj => hd j (by simpa using h.1 j hj), topo_ok (done := x.ix :: done) (fun j hj => ?_) h.2⟩
    cases hj with
    | head => exact .inr rfl
    | tail _ hj => exact .inl (hd j hj)
theorem planOf_ok {ops : Array Oper} {l : List DOp} (h : planOf P nt ops = some l) : ∃ all, Plan P nt ops all ∧ l = all.map (dopOf all) := by
  unfold planOf at h
  split at h
  · rename_i rows hr
    split at h
    · rename_i all hd
      split at h
      · rename_i hc
        cases h
        refine ⟨all, ?_, rfl⟩
        unfold planChk at hc
        simp only [Bool.and_eq_true, List.all_eq_true] at hc
        obtain ⟨⟨⟨⟨⟨c1, c2⟩, c3⟩, c4⟩, c5⟩, c6⟩ := hc
        refine ⟨fun r hm => ?_, pairsOk_pairs c4, fun r hm => implies_iff.1 (c5 r hm), fun r hm k hk => ?_, Nat.eq_of_beq_eq_true c1, fun j hj => ?_, topo_ok (fun j hj => by cases hj) c3⟩
        · obtain ⟨r', h1, h2, h3⟩ := drowsOf_mem _ _ hd r hm
          obtain ⟨o, h4, h5, h6⟩ := rowsOf_get _ _ _ _ hr _ _ h1
          exact ⟨o, by simpa using h4, by rw [h2]; exact cpop_ok h5, by rw [h3, h6]⟩
        · have := c6 r hm k hk
          simp only [Bool.or_eq_true, List.any_eq_true, Bool.and_eq_true, List.contains_iff_mem] at this
          rcases this with h | ⟨z, hz, h1, h2⟩
          · exact .inl h
          · exact .inr ⟨z, hz, h1, h2⟩
        · have := c2 j (List.mem_range.2 hj)
          rw [List.any_eq_true] at this
          obtain ⟨x, hx, h⟩ := this
          exact ⟨x, hx, Nat.eq_of_beq_eq_true h⟩
      · cases h
    · cases h
  · cases h
theorem draw_sim (hm : P.follows .mixedOrders = true) (hC : SimCall P w0 call) (hF : Framed call) : DrawSim P w0 call := by
  intro nt ops l id T σ m a w T' σ' σ1 Q hl hb hv hR K
  obtain ⟨all, hP, rfl⟩ := planOf_ok hl
  obtain ⟨nx, k1, rfl⟩ := bumpN_eq hb
  have hn := Pos.plus_nat k1
  have hW : WR w0 m ⟨σ.heap, nx, σ.fams, σ.maps⟩ { w with drawn := w.drawn + 1 } := by
    have h := hR.wr.drawn (w.drawn + 1)
    exact ⟨h.below, fun b mi hb => ⟨by have := (h.dom b mi hb).1; simp only; omega, (h.dom b mi hb).2⟩, h.blk, h.alias, h.fam, fun p hp => h.tidy p (by simp only at hp; omega)⟩
  refine wp_region_any hm ?_
  refine draw_walk (base := σ.next) (σ0 := σ) (m0 := m) hC hF hP rfl K all ops.size _ T ⟨σ.heap, nx, σ.fams, σ.maps⟩ m a _ hP.len ⟨⟨hW, hR.tr, hR.size, hR.defers⟩, hv, fun x hx => hx, hP.pairs, by simp, ?_, ?_, ?_, ?_, ?_⟩ ⟨m.le_refl, fun _ _ => rfl, by simp only; omega⟩
  · intro x hx
    simp [Array.getD_eq_getD_getElem?, Array.getElem?_replicate]
    split <;> rfl
  · intro j hj; exact .inr (hP.cover j hj)
  · exact hP.topo.mono fun j hj => hj.elim
  · intro r hr hlr
    simp [Array.getD_eq_getD_getElem?, Array.getElem?_replicate] at hlr
    split at hlr <;> cases hlr
  · intro x hx
    obtain ⟨o, ho, _, _⟩ := hP.op x hx
    have hlt := (Array.getElem?_eq_some_iff.1 ho).1
    refine ⟨fun q hq p hp => ?_, fun q hq p hp => ?_⟩
    · have hpn := Pos.plus_nat hp
      obtain ⟨t1, t2, t3⟩ := hR.wr.tidy p (by omega)
      exact ⟨⟨hR.wr.fresh' (by omega), t1, t2, t3⟩, by simp only; omega⟩
    · have hpn := Pos.plus_nat hp
      exact hR.wr.fresh (by omega)
/-- THE THEOREM. -/
theorem sound {tab : Nat → Option PFn} (hm : P.follows .mixedOrders = true) (hT : ∀ f p, tab f = some p → tabOf P f = some p) (n : Nat) : SimCall P w0 (evalF tab n) :=
  sim hT (fun n h => draw_sim hm h (eval_fr tab n)) n
/-- The empty memory. -/
noncomputable def S.start : S := ⟨Tr.empty, Pos.first, Tr.empty, Tr.empty⟩
theorem WR.start (w : World) : WR w (fun _ => none) S.start w := by
  refine ⟨Below.refl _ _, fun b mi h => (by cases h), fun b blk h => ?_, fun b b' blk blk' mi mi' h => ?_, fun b blk root vb h => ?_, fun p hp => ⟨Tr.get_empty p, fun root => ?_, fun b blk root vb h => ?_⟩⟩
  · rw [show S.start.heap = Tr.empty from rfl, Tr.get_empty] at h; cases h
  · rw [show S.start.heap = Tr.empty from rfl, Tr.get_empty] at h; cases h
  · rw [show S.start.heap = Tr.empty from rfl, Tr.get_empty] at h; cases h
  · rw [show S.start.fams = Tr.empty from rfl]; unfold famOf; rw [Tr.get_empty]; exact List.not_mem_nil
  · rw [show S.start.heap = Tr.empty from rfl, Tr.get_empty] at h; cases h
/-- A CALL WITHOUT ARGUMENTS THAT THE EVALUATOR ANSWERS WITH A BOOLEAN. -/
theorem calls_closed {tab : Nat → Option PFn} (hm : P.follows .mixedOrders = true) (hT : ∀ f p, tab f = some p → tabOf P f = some p) {n f : Nat} {b : Bool} {σ' : S} (h : evalF tab n f [] S.start = some (.bool b, σ')) (w : World) :
    Calls P f #[] w fun | .returned x, w' => x = .bool b ∧ Below w.heap.size w w' | _, _ => False := by
  obtain ⟨_, h2⟩ := sound (w0 := w) hm hT n f [] S.start (.bool b) σ' w (fun _ => none) #[] h (WR.start w) .nil
  refine Calls.mono h2 fun e w' he => ?_
  cases e with
  | returned x =>
    obtain ⟨m', h1, _, h3⟩ := he
    exact ⟨h1.bool, h3.below⟩
  | panicked c => exact he.elim
  | outgrown => exact he.elim
/-- The table laid out ahead is the table. -/
def TabOk (P : Program) (t : Tr PFn) : Prop := ∀ f p, tabT t f = some p → tabOf P f = some p
theorem tabOk_empty : TabOk P Tr.empty := fun f p h => by
  unfold tabT at h
  obtain ⟨q, _, h2⟩ := andThen_eq.1 h
  rw [Tr.get_empty] at h2; cases h2
theorem tabOk_set {t : Tr PFn} {f : Nat} {q : Pos} {p : PFn} (h : TabOk P t) (hf : tabOf P f = some p) (hq : Pos.ofNat f = some q) : TabOk P (Tr.set q (some p) t) := fun f' p' h' => by
  unfold tabT at h'
  obtain ⟨q', h1, h2⟩ := andThen_eq.1 h'
  rw [Tr.get_set] at h2
  by_cases e : q' = q
  · rw [if_pos e] at h2; cases h2
    have h3 := Pos.ofNat_nat h1
    have h4 := Pos.ofNat_nat hq
    rw [e, h4] at h3; subst h3; exact hf
  · rw [if_neg e] at h2
    exact h f' p' (by unfold tabT; rw [h1]; exact h2)
/-- IF A TEST OF THE LAID TABLE SAYS YES, A TABLE IS THERE FOR WHICH IT DOES. -/
theorem layTab_ok {k : Tr PFn → Bool} : ∀ (ids : List Nat) (t : Tr PFn), TabOk P t → layTab P ids t k = true → ∃ t, TabOk P t ∧ k t = true
  | [], t, ht, h => ⟨t, ht, h⟩
  | f :: ids, t, ht, h => by
    unfold layTab at h
    split at h
    · rename_i p hp
      split at h
      · rename_i q hq
        rw [forcePos_eq, forceFn_eq, Tr.setK_eq] at h
        exact layTab_ok ids _ (tabOk_set ht hp hq) h
      · exact layTab_ok ids t ht h
    · exact layTab_ok ids t ht h
noncomputable def isTrue (o : Option (AVal × S)) : Bool := match o with
  | some x => match x with
    | (v, _) => match v with
      | .bool b => b
      | _ => false
  | none => false
theorem isTrue_iff {o : Option (AVal × S)} (h : isTrue o = true) : ∃ σ', o = some (.bool true, σ') := by
  unfold isTrue at h
  split at h
  · split at h
    rename_i v σ'
    split at h
    · subst h; exact ⟨σ', rfl⟩
    · cases h
  · cases h
/-- ONE TEST BY THE KERNEL. -/
theorem closed {ids : List Nat} {n f : Nat} (hm : P.follows .mixedOrders = true) (h : layTab P ids Tr.empty (fun t => isTrue (evalF (tabT t) n f [] S.start)) = true) (w : World) :
    Calls P f #[] w fun | .returned x, w' => x = .bool true ∧ Below w.heap.size w w' | _, _ => False := by
  obtain ⟨t, ht, h⟩ := layTab_ok ids _ tabOk_empty h
  obtain ⟨σ', h⟩ := isTrue_iff h
  exact calls_closed hm ht h w
end
end Go.Am
