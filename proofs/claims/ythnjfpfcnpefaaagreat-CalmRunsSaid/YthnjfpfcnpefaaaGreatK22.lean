/-
  Neighbours change places; what is ready goes first. Conditions: none.
-/
import Derived.Test.YthnjfpfcnpefaaaGreatK21
namespace Go.Am
section
variable {call : Caller} {base : Pos} {T T' T1 T2 : Tm} {σ σ' σ1 σ2 : S} {v w : AVal}
theorem own_named (blk : Blk) (p : Pos) : Own p (blk.named p) := by
  obtain ⟨e, k, c⟩ := blk
  intro root vb hk
  cases k <;> simp [Blk.named] at hk
  exact hk.1.symm
theorem named_root {blk : Blk} {p q : Pos} (h : q ≠ p) : ∀ root vb, (blk.named q).kind = .fam root vb → root ≠ p := by
  intro root vb hk
  have := own_named blk q root vb hk
  rw [this]; exact h
/-- The name it keeps, if it makes a block, is free. -/
def NameFree (base : Pos) (ix : Nat) (o : POp) (σ : S) : Prop := ∀ q, o.op = .a q → ∀ p, Pos.plus ix base = some p → Free p σ ∧ p.nat < σ.next.nat
theorem calm_cases {o : POp} (h : o.calm = true) : (∃ q, o.op = .q q ∧ q.reads = false) ∨ ∃ q, o.op = .a q := by
  obtain ⟨d, g, k⟩ := o
  cases k with
  | q q => simp [POp.calm] at h; exact .inl ⟨q, rfl, h⟩
  | a q => exact .inr ⟨q, rfl⟩
  | e q => cases h
/-- MEMORY, when neighbours change places. -/
theorem swap_mem (hc : Framed call) {ix iy : Nat} {x y : POp} (hx : valD call base ix x T σ = some (v, σ1)) (hy : valD call base iy y T σ1 = some (w, σ2)) (hne : ix ≠ iy) (hk : x.isQ = true ∨ y.calm = true)
    (hre : x.reads = true → rereads T y = true → valD call base ix x T σ2 = some (v, σ2)) (hn : NameFree base iy y σ) :
    ∃ σ3, valD call base iy y T σ = some (w, σ3) ∧ valD call base ix x T σ3 = some (v, σ2) := by
  by_cases hwx : wanted x.guard T = true
  · by_cases hwy : wanted y.guard T = true
    · rcases hk with hk | hk
      · -- x is quiet
        obtain ⟨dx, gx, kx⟩ := x
        cases kx with
        | q q =>
          have e1 : σ1 = σ := by
            unfold valD at hx
            simp only at hwx
            rw [hwx] at hx
            simp only at hx
            obtain ⟨v', h1, h2⟩ := andThen_eq.1 hx
            cases h2; rfl
          subst e1
          refine ⟨σ2, hy, ?_⟩
          have hx' : evalQ q T σ1 = some v := by
            unfold valD at hx
            simp only at hwx
            rw [hwx] at hx
            simp only at hx
            obtain ⟨v', h1, h2⟩ := andThen_eq.1 hx
            cases h2; exact h1
          have fin : evalQ q T σ2 = some v → valD call base ix ⟨dx, gx, .q q⟩ T σ2 = some (v, σ2) := by
            intro h
            unfold valD
            simp only at hwx ⊢
            rw [hwx]
            simp only
            rw [h]; rfl
          obtain ⟨dy, gy, ky⟩ := y
          cases ky with
          | q q' =>
            have : σ2 = σ1 := by
              unfold valD at hy
              simp only at hwy
              rw [hwy] at hy
              simp only at hy
              obtain ⟨v', h1, h2⟩ := andThen_eq.1 hy
              cases h2; rfl
            subst this
            exact hx
          | a q' =>
            unfold valD at hy
            simp only at hwy
            rw [hwy] at hy
            simp only at hy
            obtain ⟨⟨blk, mk⟩, h1, h2⟩ := andThen_eq.1 hy
            cases hp : Pos.plus iy base with
            | none => rw [hp] at h2; cases h2
            | some p =>
              rw [hp] at h2; cases h2
              exact fin (q_fr q T σ1 v hx' p _ (hn q' rfl p hp).1 (own_named blk p))
          | e q' =>
            cases hr : q.reads with
            | false => exact fin ((q_pure hr σ1).symm ▸ hx' : evalQ q T σ2 = some v)
            | true => exact hre (by simp [POp.reads, hr]) (by simp [rereads, POp.isE]; exact hwy)
        | a q => cases hk
        | e q => cases hk
      · rcases calm_cases hk with ⟨q, hq, hr⟩ | ⟨q, hq⟩
        · -- y is quiet, and reads nothing
          obtain ⟨dy, gy, ky⟩ := y
          simp only at hq; subst hq
          unfold valD at hy
          simp only at hwy
          rw [hwy] at hy
          simp only at hy
          obtain ⟨v', h1, h2⟩ := andThen_eq.1 hy
          cases h2
          refine ⟨σ, ?_, hx⟩
          unfold valD
          simp only
          rw [hwy]
          simp only
          rw [q_pure hr σ1, h1]; rfl
        · -- y makes a block
          obtain ⟨dy, gy, ky⟩ := y
          simp only at hq; subst hq
          unfold valD at hy
          simp only at hwy
          rw [hwy] at hy
          simp only at hy
          obtain ⟨⟨blk, mk⟩, h1, h2⟩ := andThen_eq.1 hy
          cases hp : Pos.plus iy base with
          | none => rw [hp] at h2; cases h2
          | some p =>
            rw [hp] at h2; cases h2
            obtain ⟨hf, hlt⟩ := hn q rfl p hp
            refine ⟨σ.lay p (blk.named p), ?_, ?_⟩
            · unfold valD
              simp only
              rw [hwy]
              simp only
              rw [h1, hp]; rfl
            · obtain ⟨dx, gx, kx⟩ := x
              unfold valD at hx ⊢
              simp only at hwx hx ⊢
              rw [hwx] at hx ⊢
              simp only at hx ⊢
              cases kx with
              | q q' =>
                simp only at hx ⊢
                obtain ⟨v', h3, h4⟩ := andThen_eq.1 hx
                cases h4
                rw [q_fr q' T σ v h3 p _ hf (own_named blk p)]; rfl
              | a q' =>
                simp only at hx ⊢
                obtain ⟨⟨blk', mk'⟩, h3, h4⟩ := andThen_eq.1 hx
                cases hp' : Pos.plus ix base with
                | none => rw [hp'] at h4; cases h4
                | some p' =>
                  rw [hp'] at h4; cases h4
                  have hpp : p' ≠ p := fun e => by
                    subst e
                    have := Pos.plus_nat hp
                    have := Pos.plus_nat hp'
                    omega
                  rw [h3]
                  simp only [andThen_some]
                  rw [lay_comm hpp (own_named blk p) (named_root hpp)]
              | e q' => exact ((e_fr hc q' T σ v σ1 hx).2 p _ hlt hf (own_named blk p)).2
    · -- y is not wanted
      have hwy : wanted y.guard T = false := by simpa using hwy
      unfold valD at hy
      rw [hwy] at hy
      cases hy
      refine ⟨σ, ?_, hx⟩
      unfold valD
      rw [hwy]
  · have hwx : wanted x.guard T = false := by simpa using hwx
    unfold valD at hx
    rw [hwx] at hx
    cases hx
    refine ⟨σ2, hy, ?_⟩
    unfold valD
    rw [hwx]
/-- A free name stays free. -/
theorem free_step (hc : Framed call) {d : DOp} (h : evalD call base d T σ = some (T', σ')) {p : Pos} (hf : Free p σ) (hlt : p.nat < σ.next.nat) (hne : Pos.plus d.ix base ≠ some p) : Free p σ' ∧ p.nat < σ'.next.nat := by
  obtain ⟨ix, o, cks⟩ := d
  obtain ⟨v, h1, _, _⟩ := evalD_iff.1 h
  unfold valD at h1
  cases hw : wanted o.guard T with
  | false => rw [hw] at h1; cases h1; exact ⟨hf, hlt⟩
  | true =>
    rw [hw] at h1
    simp only at h1
    split at h1
    · obtain ⟨v', _, h3⟩ := andThen_eq.1 h1
      cases h3; exact ⟨hf, hlt⟩
    · obtain ⟨⟨blk', mk'⟩, h3, h4⟩ := andThen_eq.1 h1
      cases hp' : Pos.plus ix base with
      | none => rw [hp'] at h4; cases h4
      | some p' =>
        rw [hp'] at h4; cases h4
        have hpp : p' ≠ p := fun e => hne (by simp only; rw [hp', e])
        exact ⟨hf.lay hpp (named_root hpp), by rw [lay_next]; exact hlt⟩
    · rename_i q _
      obtain ⟨g1, g2⟩ := e_fr hc q T σ _ _ h1
      exact ⟨(g2 p ⟨0, .ex, []⟩ hlt hf (fun _ _ h => by cases h)).1, by omega⟩
theorem valD_q {ix : Nat} {x : POp} (hx : x.isQ = true) (h : valD call base ix x T σ = some (v, σ')) : σ' = σ := by
  obtain ⟨d, g, k⟩ := x
  cases k with
  | q q =>
    unfold valD at h
    simp only at h
    split at h
    · obtain ⟨v', _, h3⟩ := andThen_eq.1 h
      cases h3; rfl
    · cases h; rfl
  | a q => cases hx
  | e q => cases hx
/-- What the second of them does to memory, when it is calm. -/
theorem valD_calm {ix : Nat} {y : POp} (hk : y.calm = true) (h : valD call base ix y T σ = some (w, σ')) : σ' = σ ∨ ∃ (q : AOp) (p : Pos) (blk : Blk), y.op = .a q ∧ Pos.plus ix base = some p ∧ σ' = σ.lay p (blk.named p) := by
  rcases calm_cases hk with ⟨q, hq, _⟩ | ⟨q, hq⟩
  · exact .inl (valD_q (by unfold POp.isQ; rw [hq]) h)
  · unfold valD at h
    rw [hq] at h
    split at h
    · simp only at h
      obtain ⟨⟨blk, mk⟩, h1, h2⟩ := andThen_eq.1 h
      cases hp : Pos.plus ix base with
      | none => rw [hp] at h2; cases h2
      | some p => rw [hp] at h2; cases h2; exact .inr ⟨q, p, blk, hq, rfl, rfl⟩
    · cases h; exact .inl rfl
theorem selfApart_agree {x : POp} (h : selfApart x = true) : Agree x.looks (T.put x.dst v) T := by
  intro s hs
  refine at_put_ne fun e => ?_
  unfold selfApart at h
  rw [e] at h
  simp only [Bool.not_eq_true'] at h
  rw [slotIn_iff.2 hs] at h; cases h
theorem Agree.trans {l : List Slot} {A B C : Tm} (h : Agree l A B) (k : Agree l B C) : Agree l A C := fun s hs => (h s hs).trans (k s hs)
/-- NEIGHBOURS CHANGE PLACES. -/
theorem swap (hc : Framed call) {x y : DOp} (hx : evalD call base x T σ = some (T1, σ1)) (hy : evalD call base y T1 σ1 = some (T2, σ2)) (hne : x.ix ≠ y.ix) (n1 : noClash x.op y.op = true) (n2 : noClash y.op x.op = true)
    (hk : x.op.isQ = true ∨ y.op.calm = true) (hrd : x.op.reads = true → y.op.isE = true → x.op ∈ y.checks) (hself : x.op.reads = true → selfApart x.op = true) (hck : x.op.isE = true → ∀ z ∈ x.checks, noClash y.op z = true)
    (hn : NameFree base y.ix y.op σ) :
    ∃ T3 σ3, evalD call base ⟨y.ix, y.op, y.checks.filter (noClash x.op)⟩ T σ = some (T3, σ3) ∧ evalD call base x T3 σ3 = some (T2, σ2) := by
  obtain ⟨ix, x, cx⟩ := x
  obtain ⟨iy, y, cy⟩ := y
  simp only at *
  obtain ⟨v, hx1, rfl, hx2⟩ := evalD_iff.1 hx
  obtain ⟨w, hy1, rfl, hy2⟩ := evalD_iff.1 hy
  rw [valD_agree (noClash_agree n1)] at hy1
  have hry : rereads (T.put x.dst v) y = rereads T y := by unfold rereads; rw [wanted_agree (noClash_agree n1)]
  rw [hry] at hy2
  obtain ⟨σ3, g1, g2⟩ := swap_mem hc hx1 hy1 hne hk (fun hr he => by
    have hE : y.isE = true := by unfold rereads at he; simp only [Bool.and_eq_true] at he; exact he.2
    have hz := rechecks_iff.1 (hy2 he) x (hrd hr hE)
    have hag : Agree x.looks ((T.put x.dst v).put y.dst w) T := (noClash_agree n2).trans (selfApart_agree (hself hr))
    have hwt := wanted_agree hag
    have hdst := fun s hs => noClash_dst (T := T.put x.dst v) (v := w) n2 s hs
    have hlk := looks_opds hag
    obtain ⟨d, g, k⟩ := x
    cases k with
    | q q =>
      unfold valD at hx1 ⊢
      unfold recheck at hz
      simp only at hwt hdst hz hx1 hlk ⊢
      rw [hwt] at hz
      cases hw : wanted g T with
      | false => rw [hw] at hx1; cases hx1; rfl
      | true =>
        rw [hw] at hz
        simp only [recheckQ] at hz ⊢
        cases d with
        | none => cases hz
        | some s =>
          simp only at hz
          cases hq : evalQ q ((T.put (some s) v).put y.dst w) σ2 with
          | none => rw [hq] at hz; cases hz
          | some v' =>
            rw [hq] at hz
            have := same_eq hz
            rw [hdst s rfl, Tm.at_put, if_pos rfl] at this
            subst this
            rw [← q_agree hlk, hq]; rfl
    | a q => cases hr
    | e q => cases hr) hn
  refine ⟨T.put y.dst w, σ3, evalD_iff.2 ⟨w, g1, rfl, ?_⟩, evalD_iff.2 ⟨v, ?_, put_comm n1, ?_⟩⟩
  · intro he
    have hE : y.isE = true := by unfold rereads at he; simp only [Bool.and_eq_true] at he; exact he.2
    have hQ : x.isQ = true := hk.resolve_right (fun h => by
      obtain ⟨d, g, k⟩ := y
      cases k <;> simp [POp.isE] at hE
      cases h)
    have := valD_q hQ g2
    subst this
    refine rechecks_iff.2 fun z hz => ?_
    obtain ⟨hz1, hz2⟩ := List.mem_filter.1 hz
    have := rechecks_iff.1 (hy2 he) z hz1
    rw [put_comm n1] at this
    rw [← this]
    exact (recheck_agree (noClash_agree hz2) (fun s hs => noClash_dst hz2 s hs)).symm
  · rw [valD_agree (noClash_agree n2)]; exact g2
  · intro he
    have he : rereads T x = true := by unfold rereads at he ⊢; rw [wanted_agree (noClash_agree n2)] at he; exact he
    have hE : x.isE = true := by unfold rereads at he; simp only [Bool.and_eq_true] at he; exact he.2
    have hC : y.calm = true := hk.resolve_left (fun h => by
      obtain ⟨d, g, k⟩ := x
      cases k <;> simp [POp.isE] at hE
      cases h)
    have h1 : rechecks ((T.put x.dst v).put y.dst w) σ1 cx = true := rechecks_iff.2 fun z hz => by
      rw [recheck_agree (noClash_agree (hck hE z hz)) (fun s hs => noClash_dst (hck hE z hz) s hs)]
      exact rechecks_iff.1 (hx2 he) z hz
    rcases valD_calm hC hy1 with rfl | ⟨q, p, blk, hq, hp, rfl⟩
    · exact h1
    · obtain ⟨hf, hlt⟩ := hn q hq p hp
      have hpne : Pos.plus ix base ≠ some p := fun e => by
        have := Pos.plus_nat e
        have := Pos.plus_nat hp
        omega
      exact recheck_fr h1 (free_step hc hx hf hlt hpne).1 (own_named blk p)
theorem evalDs_cons {d : DOp} {l : List DOp} {r : Tm × S} : evalDs call base (d :: l) T σ = some r ↔ ∃ T1 σ1, evalD call base d T σ = some (T1, σ1) ∧ evalDs call base l T1 σ1 = some r := by
  constructor
  · intro h
    unfold evalDs at h
    obtain ⟨⟨T1, σ1⟩, h1, h2⟩ := andThen_eq.1 h
    exact ⟨T1, σ1, h1, h2⟩
  · rintro ⟨T1, σ1, h1, h2⟩
    unfold evalDs
    rw [h1]; exact h2
theorem evalDs_append {l r : List DOp} {x : Tm × S} : evalDs call base (l ++ r) T σ = some x ↔ ∃ T1 σ1, evalDs call base l T σ = some (T1, σ1) ∧ evalDs call base r T1 σ1 = some x := by
  induction l generalizing T σ with
  | nil => exact ⟨fun h => ⟨T, σ, rfl, h⟩, fun ⟨T1, σ1, h1, h2⟩ => by cases h1; exact h2⟩
  | cons d l ih =>
    rw [List.cons_append, evalDs_cons]
    constructor
    · rintro ⟨T1, σ1, h1, h2⟩
      obtain ⟨T2, σ2, h3, h4⟩ := ih.1 h2
      exact ⟨T2, σ2, evalDs_cons.2 ⟨T1, σ1, h1, h3⟩, h4⟩
    · rintro ⟨T2, σ2, h1, h2⟩
      obtain ⟨T1, σ1, h3, h4⟩ := evalDs_cons.1 h1
      exact ⟨T1, σ1, h3, ih.2 ⟨T2, σ2, h4, h2⟩⟩
/-- What the checker says of two rows, the first ahead of the second. -/
structure Pair (all : List DRow) (x y : DRow) : Prop where
  ne : x.ix ≠ y.ix
  rd : x.p.reads = true → noClash y.p x.p = true
  un : y.anc.contains x.ix = false → noClash x.p y.p = true ∧ noClash y.p x.p = true ∧ (x.p.isQ = true ∨ y.p.calm = true) ∧ (x.p.reads = true → y.p.isE = true → y.cks.contains x.ix = true) ∧
    (x.p.isE = true → ∀ z ∈ checksOf all x, noClash y.p z = true)
theorem implies_iff {a b : Bool} : implies a b = true ↔ (a = true → b = true) := by cases a <;> simp [implies]
/-- WHAT IS READY GOES FIRST. -/
theorem front (hc : Framed call) {all : List DRow} (i : DRow) : ∀ (p1 : List DRow) (T : Tm) (σ : S) (T' : Tm) (σ' : S), evalDs call base (p1.map (dopOf all) ++ [dopOf all i]) T σ = some (T', σ') →
    (∀ x ∈ p1, x ∈ all ∧ Pair all x i ∧ i.anc.contains x.ix = false ∧ (x.p.reads = true → selfApart x.p = true)) → p1.Pairwise (Pair all) → NameFree base i.ix i.p σ →
    ∃ c, (∀ z ∈ checksOf all i, (∀ x ∈ p1, noClash x.p z = true) → z ∈ c) ∧ evalDs call base (⟨i.ix, i.p, c⟩ :: p1.map (dopOf all)) T σ = some (T', σ')
  | [], T, σ, T', σ', h, _, _, _ => ⟨checksOf all i, fun z hz _ => hz, h⟩
  | x :: p1, T, σ, T', σ', h, hx, hp, hn => by
    rw [List.map_cons, List.cons_append, evalDs_cons] at h
    obtain ⟨T1, σ1, h1, h2⟩ := h
    obtain ⟨m1, m2, m3, m4⟩ := hx x List.mem_cons_self
    have hn1 : NameFree base i.ix i.p σ1 := fun q hq p hpp => by
      obtain ⟨hf, hlt⟩ := hn q hq p hpp
      refine free_step hc h1 hf hlt fun e => ?_
      have := Pos.plus_nat e
      have := Pos.plus_nat hpp
      have := m2.ne
      simp only [dopOf] at *
      omega
    rw [List.pairwise_cons] at hp
    obtain ⟨c1, k1, k2⟩ := front hc i p1 T1 σ1 T' σ' h2 (fun y hy => hx y (List.mem_cons_of_mem _ hy)) hp.2 hn1
    obtain ⟨T2, σ2, k3, k4⟩ := evalDs_cons.1 k2
    obtain ⟨u1, u2, u3, u4, u5⟩ := m2.un m3
    obtain ⟨T3, σ3, s1, s2⟩ := swap hc (x := dopOf all x) (y := ⟨i.ix, i.p, c1⟩) h1 k3 m2.ne u1 u2 u3 (fun hr he => by
      refine k1 x.p ?_ (fun y hy => (hp.1 y hy).rd hr)
      unfold checksOf
      exact List.mem_map.2 ⟨x, List.mem_filter.2 ⟨m1, u4 hr he⟩, rfl⟩) m4 u5 hn
    refine ⟨_, ?_, evalDs_cons.2 ⟨T3, σ3, s1, evalDs_cons.2 ⟨T2, σ2, s2, k4⟩⟩⟩
    intro z hz hall
    exact List.mem_filter.2 ⟨k1 z hz fun y hy => hall y (List.mem_cons_of_mem _ hy), hall x List.mem_cons_self⟩
end
end Go.Am
