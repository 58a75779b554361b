/-
  Statements whose order is open, in the walk. Conditions: none.
-/
import Derived.Test.YtdolmkdbpnlegaaGreatDoorK22
import Derived.Orders
namespace Go.Am
open Go.RowKit (Below)
section
variable {P : Program} {w0 w : World} {m : Mp} {σ σ' : S} {T T' : Tm} {a : Act} {v : AVal} {call : Caller} {next : Act → World → Prop} {Q : Exit → Act → World → Prop} {nt : Nat} {base : Pos}
theorem d_step (hC : SimCall P w0 call) {ops : Array Oper} {o : Oper} {ix : Nat} {p : POp} {c : List POp} (h : CP P nt ops o p) (hR : Rel w0 nt m T σ a w) (hv : evalD call base ⟨ix, p, c⟩ T σ = some (T', σ'))
    (hn : ∀ q, p.op = .a q → ∀ b, Pos.plus ix base = some b → m b = none ∧ b.nat < σ.next.nat)
    (K : ∀ a' w' m', m.le m' → (∀ b : Pos, b.nat < σ.next.nat → Pos.plus ix base ≠ some b → m' b = m b) → σ.next.nat ≤ σ'.next.nat → Rel w0 nt m' T' σ' a' w' → next a' w') :
    if Region.wanted o (yielded ops a.tmps) then o.wp P a w next Q else next (a.put o.dst undef) w := by
  rw [h.wanted hR.tr]
  obtain ⟨v, hv1, rfl, _⟩ := evalD_iff.1 hv
  unfold valD at hv1
  cases hw : Am.wanted p.guard T with
  | false =>
    rw [hw] at hv1
    cases hv1
    exact K _ _ m m.le_refl (fun _ _ _ => rfl) (Nat.le_refl _) (hR.put m.le_refl hR.wr h.dst .undef)
  | true =>
    rw [hw] at hv1
    rw [if_pos rfl]
    have hop := h.op
    obtain ⟨d, g, k⟩ := p
    simp only at hop hv1
    cases k with
    | q q =>
      obtain ⟨v', h1, h2⟩ := andThen_eq.1 hv1
      cases h2
      exact q_step hop hR.wr hR.tr h1 fun x hx => K _ _ m m.le_refl (fun _ _ _ => rfl) (Nat.le_refl _) (hR.put m.le_refl hR.wr h.dst hx)
    | a q =>
      obtain ⟨⟨blk, mk⟩, h1, h2⟩ := andThen_eq.1 hv1
      cases hp : Pos.plus ix base with
      | none => rw [hp] at h2; cases h2
      | some b =>
        rw [hp] at h2; cases h2
        obtain ⟨n1, n2⟩ := hn q rfl b hp
        refine a_step hop hR.wr hR.tr h1 n1 n2 (Nat.le_refl _) fun x w' mi hw' hx => ?_
        have he : σ.lay b (blk.named b) = σ.layAt b (blk.named b) σ.next := lay_eq _ _ _
        rw [he] at K
        exact K _ _ _ (upd_le n1 mi) (fun b' hb' hne => upd_ne m (fun e => hne (by rw [hp, e])) mi) (Nat.le_refl _) (hR.put (upd_le n1 mi) hw' h.dst hx)
    | e q =>
      exact e_step hC hop hR.wr hR.tr hv1 fun x w' hx => by
        obtain ⟨m', g1, g2⟩ := hR.putDone h.dst hx
        exact K _ _ m' g1.le (fun b hb _ => g1.old b hb) g1.next g2
def Topo (L : Nat → Prop) : List DRow → Prop
  | [] => True
  | x :: l => (∀ j ∈ x.pre, L j) ∧ Topo (fun j => L j ∨ j = x.ix) l
theorem Topo.mono {L L' : Nat → Prop} (h : ∀ j, L j → L' j) : ∀ {l : List DRow}, Topo L l → Topo L' l
  | [], _ => trivial
  | _ :: _, ⟨h1, h2⟩ => ⟨fun j hj => h j (h1 j hj), h2.mono fun j hj => hj.imp (h j) id⟩
theorem Topo.drop {L : Nat → Prop} {x : DRow} {p2 : List DRow} : ∀ {p1 : List DRow}, Topo L (p1 ++ x :: p2) → Topo (fun j => L j ∨ j = x.ix) (p1 ++ p2)
  | [], h => h.2
  | y :: p1, ⟨h1, h2⟩ => ⟨fun j hj => .inl (h1 j hj), (Topo.drop h2).mono fun j hj => by
      rcases hj with (hj | hj) | hj
      · exact .inl (.inl hj)
      · exact .inr hj
      · exact .inl (.inr hj)⟩
structure Inv (P : Program) (w0 : World) (nt : Nat) (ops : Array Oper) (call : Caller) (base : Pos) (all : List DRow) (T' : Tm) (σ' : S) (listed : Array Bool) (l : List DRow) (T : Tm) (σ : S) (m : Mp) (a : Act) (w : World) : Prop where
  rel : Rel w0 nt m T σ a w
  eval : evalDs call base (l.map (dopOf all)) T σ = some (T', σ')
  sub : ∀ x ∈ l, x ∈ all
  pairs : l.Pairwise (Pair all)
  size : listed.size = ops.size
  un : ∀ x ∈ l, listed.getD x.ix false = false
  cover : ∀ j, j < ops.size → listed.getD j false = true ∨ ∃ x ∈ l, x.ix = j
  topo : Topo (fun j => listed.getD j false = true) l
  down : ∀ r ∈ all, listed.getD r.ix false = true → ∀ k ∈ r.anc, listed.getD k false = true
  names : ∀ x ∈ l, NameFree base x.ix x.p σ ∧ ∀ q, x.p.op = .a q → ∀ b, Pos.plus x.ix base = some b → m b = none
structure Plan (P : Program) (nt : Nat) (ops : Array Oper) (all : List DRow) : Prop where
  op : ∀ r ∈ all, ∃ o, ops[r.ix]? = some o ∧ CP P nt ops o r.p ∧ r.pre = preOf o
  pairs : all.Pairwise (Pair all)
  self : ∀ r ∈ all, r.p.reads = true → selfApart r.p = true
  anc : ∀ r ∈ all, ∀ k ∈ r.anc, k ∈ r.pre ∨ ∃ z ∈ all, z.ix ∈ r.pre ∧ k ∈ z.anc
  len : all.length = ops.size
  cover : ∀ j, j < ops.size → ∃ x ∈ all, x.ix = j
  topo : Topo (fun _ => False) all
theorem mem_ready {ops : Array Oper} {listed : Array Bool} {i : Nat} (hs : listed.size = ops.size) : i ∈ Region.ready .any ops listed ↔ i < ops.size ∧ listed.getD i false = false ∧ ∃ o, ops[i]? = some o ∧ ∀ j ∈ preOf o, listed.getD j false = true := by
  unfold Region.ready preOf
  rw [List.mem_filter, List.mem_range]
  constructor
  · rintro ⟨h1, h2⟩
    simp only [Bool.and_eq_true, Bool.not_eq_true'] at h2
    refine ⟨h1, ?_, ops[i], by simp [h1], ?_⟩
    · have := h2.1
      simp [Array.getD_eq_getD_getElem?, hs, h1] at this ⊢; exact this
    · have h3 := h2.2
      simp only [Array.getElem?_eq_getElem h1, Option.map_some, Option.getD_some, Array.all_eq_true'] at h3
      intro j hj
      simp only [List.mem_map, List.mem_filter] at hj
      obtain ⟨e, ⟨he1, he2⟩, rfl⟩ := hj
      have := h3 e (by simpa using he1)
      simpa [he2] using this
  · rintro ⟨h1, h2, o, ho, h3⟩
    refine ⟨h1, ?_⟩
    simp only [Bool.and_eq_true, Bool.not_eq_true']
    constructor
    · simp [Array.getD_eq_getD_getElem?, hs, h1] at h2 ⊢; exact h2
    · rw [ho]
      simp only [Option.map_some, Option.getD_some, Array.all_eq_true']
      intro e he
      cases hb : Region.binds .any e with
      | false => simp
      | true =>
        simp only [Bool.not_true, Bool.false_or]
        exact h3 e.on (List.mem_map.2 ⟨e, List.mem_filter.2 ⟨by simpa using he, hb⟩, rfl⟩)
theorem getD_set {listed : Array Bool} {i j : Nat} (hi : i < listed.size) : (listed.setIfInBounds i true).getD j false = true ↔ listed.getD j false = true ∨ j = i := by
  simp only [Array.getD_eq_getD_getElem?]
  by_cases e : i = j
  · subst e; simp [hi]
  · rw [Array.getElem?_setIfInBounds_ne e]
    exact ⟨.inl, fun h => h.resolve_right (fun h' => e h'.symm)⟩
theorem draw_walk (hC : SimCall P w0 call) (hF : Framed call) {ops : Array Oper} {all : List DRow} (hP : Plan P nt ops all) {σ0 : S} {m0 : Mp} (hb : σ0.next = base) (K : ∀ a' w' m', Ext m0 m' σ0 σ' → Rel w0 nt m' T' σ' a' w' → Q .normal a' w') :
    ∀ (l : List DRow) (fuel : Nat) (listed : Array Bool) (T : Tm) (σ : S) (m : Mp) (a : Act) (w : World), l.length = fuel → Inv P w0 nt ops call base all T' σ' listed l T σ m a w → Ext m0 m σ0 σ → wpAny P .any ops Q fuel listed a w := by
  intro l
  generalize hl : l.length = k
  induction k generalizing l with
  | zero =>
    intro fuel listed T σ m a w hf hI hE
    have : l = [] := List.length_eq_zero_iff.1 hl
    subst this
    subst hf
    have := hI.eval
    cases this
    refine ⟨?_, K a w m hE hI.rel⟩
    apply List.eq_nil_iff_forall_not_mem.2
    intro i hi
    obtain ⟨h1, h2, _⟩ := (mem_ready hI.size).1 hi
    rcases hI.cover i h1 with h | ⟨x, hx, _⟩
    · rw [h2] at h; cases h
    · cases hx
  | succ k ih =>
    intro fuel listed T σ m a w hf hI hE
    subst hf
    constructor
    · intro hr
      cases l with
      | nil => cases hl
      | cons x l =>
        exfalso
        obtain ⟨o, ho, _, hpre⟩ := hP.op x (hI.sub x List.mem_cons_self)
        have : x.ix ∈ Region.ready .any ops listed := (mem_ready hI.size).2 ⟨(Array.getElem?_eq_some_iff.1 ho).1, hI.un x List.mem_cons_self, o, ho, fun j hj => hI.topo.1 j (by rw [hpre]; exact hj)⟩
        rw [hr] at this; cases this
    · intro i hi
      obtain ⟨hi1, hi2, o, ho, hready⟩ := (mem_ready hI.size).1 hi
      rcases hI.cover i hi1 with h | ⟨x, hx, rfl⟩
      · rw [hi2] at h; cases h
      obtain ⟨p1, p2, rfl⟩ := List.append_of_mem hx
      obtain ⟨o', ho', hcp, hpre⟩ := hP.op x (hI.sub x hx)
      rw [ho] at ho'; cases ho'
      have hanc : ∀ r ∈ all, r.ix = x.ix → ∀ k ∈ r.anc, listed.getD k false = true := by
        intro r hr hix k hk
        obtain ⟨o2, ho2, _, hpre2⟩ := hP.op r hr
        rw [hix, ho] at ho2; cases ho2
        rcases hP.anc r hr k hk with h | ⟨z, hz, hz1, hz2⟩
        · exact hready k (by rw [← hpre2]; exact h)
        · exact hI.down z hz (hready z.ix (by rw [← hpre2]; exact hz1)) k hz2
      have hpw := List.pairwise_append.1 hI.pairs
      have hev := hI.eval
      rw [List.map_append, List.map_cons, show p1.map (dopOf all) ++ dopOf all x :: p2.map (dopOf all) = (p1.map (dopOf all) ++ [dopOf all x]) ++ p2.map (dopOf all) by simp] at hev
      obtain ⟨Ta, σa, e1, e2⟩ := evalDs_append.1 hev
      have hnanc : ∀ y ∈ p1, x.anc.contains y.ix = false := fun y hy => by
        cases hcon : x.anc.contains y.ix with
        | false => rfl
        | true =>
          have h1 := hanc x (hI.sub x hx) rfl y.ix (by simpa using hcon)
          rw [hI.un y (List.mem_append_left _ hy)] at h1
          cases h1
      obtain ⟨c, _, e3⟩ := front hF (all := all) x p1 T σ Ta σa e1 (fun y hy => ⟨hI.sub y (List.mem_append_left _ hy), hpw.2.2 y hy x List.mem_cons_self, hnanc y hy, hP.self y (hI.sub y (List.mem_append_left _ hy))⟩) hpw.1 (hI.names x hx).1
      obtain ⟨T1, σ1, e4, e5⟩ := evalDs_cons.1 e3
      have e6 : evalDs call base ((p1 ++ p2).map (dopOf all)) T1 σ1 = some (T', σ') := by
        rw [List.map_append]; exact evalDs_append.2 ⟨Ta, σa, e5, e2⟩
      have hmem : ∀ y ∈ p1 ++ p2, y ∈ p1 ++ x :: p2 := fun y hy => by
        rcases List.mem_append.1 hy with h | h
        · exact List.mem_append_left _ h
        · exact List.mem_append_right _ (List.mem_cons_of_mem _ h)
      have hne : ∀ y ∈ p1 ++ p2, y.ix ≠ x.ix := fun y hy => by
        rcases List.mem_append.1 hy with h | h
        · exact (hpw.2.2 y h x List.mem_cons_self).ne
        · exact fun e => ((List.pairwise_cons.1 hpw.2.1).1 y h).ne e.symm
      have hlen : (p1 ++ p2).length = k := by simp at hl ⊢; omega
      have hsz : x.ix < listed.size := by rw [hI.size]; exact hi1
      have step := d_step (Q := Q) (next := wpAny P .any ops Q k (listed.setIfInBounds x.ix true)) hC hcp hI.rel e4 (fun q hq b hb => ⟨(hI.names x hx).2 q hq b hb, ((hI.names x hx).1 q hq b hb).2⟩) (fun a' w' m' hle hold hnx hR' => by
        refine ih (p1 ++ p2) hlen k _ T1 σ1 m' a' w' rfl ⟨hR', e6, fun y hy => hI.sub y (hmem y hy), ?_, by simpa using hI.size, ?_, ?_, ?_, ?_, ?_⟩ ?_
        · exact List.pairwise_append.2 ⟨hpw.1, (List.pairwise_cons.1 hpw.2.1).2, fun y hy z hz => hpw.2.2 y hy z (List.mem_cons_of_mem _ hz)⟩
        · intro y hy
          have h1 := hI.un y (hmem y hy)
          cases h2 : (listed.setIfInBounds x.ix true).getD y.ix false with
          | false => rfl
          | true =>
            rcases (getD_set hsz).1 h2 with h | h
            · rw [h1] at h; cases h
            · exact absurd h (hne y hy)
        · intro j hj
          rcases hI.cover j hj with h | ⟨y, hy, hyj⟩
          · exact .inl ((getD_set hsz).2 (.inl h))
          · by_cases e : j = x.ix
            · exact .inl ((getD_set hsz).2 (.inr e))
            · refine .inr ⟨y, ?_, hyj⟩
              rcases List.mem_append.1 hy with h | h
              · exact List.mem_append_left _ h
              · cases h with
                | head => exact absurd hyj.symm e
                | tail _ h => exact List.mem_append_right _ h
        · exact (hI.topo.drop).mono fun j hj => (getD_set hsz).2 hj
        · intro r hr hlr k hk
          rcases (getD_set hsz).1 hlr with h | h
          · exact (getD_set hsz).2 (.inl (hI.down r hr h k hk))
          · exact (getD_set hsz).2 (.inl (hanc r hr h k hk))
        · intro y hy
          obtain ⟨n1, n2⟩ := hI.names y (hmem y hy)
          refine ⟨fun q hq b hb => ?_, fun q hq b hb => ?_⟩
          · obtain ⟨hf, hlt⟩ := n1 q hq b hb
            refine free_step hF e4 hf hlt fun e => ?_
            have := Pos.plus_nat e
            have := Pos.plus_nat hb
            have := hne y hy
            simp only at *
            omega
          · rw [hold b (n1 q hq b hb).2 (fun e => by
              have := Pos.plus_nat e
              have := Pos.plus_nat hb
              have := hne y hy
              omega)]
            exact n2 q hq b hb
        · refine ⟨Mp.le_trans hE.le hle, fun b hb' => ?_, Nat.le_trans hE.next hnx⟩
          rw [hold b (Nat.lt_of_lt_of_le hb' hE.next) (fun e => by
            have := Pos.plus_nat e
            rw [hb] at hb'
            omega)]
          exact hE.old b hb')
      unfold wpOp
      rw [ho]
      simp only
      by_cases hw : Region.wanted o (yielded ops a.tmps) = true
      · rw [if_pos hw] at step ⊢; exact .inl step
      · rw [if_neg hw] at step ⊢; exact step
end
end Go.Am
