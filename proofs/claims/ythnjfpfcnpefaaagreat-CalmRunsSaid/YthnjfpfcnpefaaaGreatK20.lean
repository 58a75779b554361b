/-
  An extra block changes nothing: code and functions. Conditions: none.
-/
import Derived.Test.YthnjfpfcnpefaaaGreatK19
namespace Go.Am
noncomputable def Pos.plus : Nat → Pos → Option Pos
  | 0, p => some p
  | n + 1, p => match p.next with
    | some q => Pos.plus n q
    | none => none
theorem Pos.addK_eq {R : Type} (n : Nat) (p : Pos) (k : Pos → Option R) : Pos.addK n p k = match Pos.plus n p with | some q => k q | none => none := by
  induction n generalizing p with
  | zero => rfl
  | succ n ih =>
    unfold Pos.addK Pos.plus
    rw [Pos.nextK_eq]
    cases p.next with
    | none => rfl
    | some q => simp only; exact ih q
theorem Pos.plus_nat {n : Nat} {p q : Pos} (h : Pos.plus n p = some q) : q.nat = p.nat + n := by
  induction n generalizing p with
  | zero => cases h; rfl
  | succ n ih =>
    unfold Pos.plus at h
    cases hn : p.next with
    | none => rw [hn] at h; cases h
    | some r =>
      rw [hn] at h
      have := ih h
      have := Pos.next_nat hn
      omega
theorem bumpN_eq {n : Nat} {σ σ' : S} (h : S.bumpN n σ = some σ') : ∃ nx, Pos.plus n σ.next = some nx ∧ σ' = ⟨σ.heap, nx, σ.fams, σ.maps⟩ := by
  induction n generalizing σ with
  | zero => cases h; exact ⟨_, rfl, rfl⟩
  | succ n ih =>
    unfold S.bumpN at h
    obtain ⟨σ1, h1, h⟩ := andThen_eq.1 h
    obtain ⟨hp, nx, fm, ms⟩ := σ
    simp only [S.bump, Pos.nextK_eq] at h1
    cases hn : nx.next with
    | none => rw [hn] at h1; cases h1
    | some q =>
      rw [hn] at h1; cases h1
      obtain ⟨nx', g1, g2⟩ := ih h
      refine ⟨nx', ?_, g2⟩
      unfold Pos.plus
      simp only [hn]; exact g1
theorem bumpN_of {n : Nat} {σ : S} {nx : Pos} (h : Pos.plus n σ.next = some nx) : S.bumpN n σ = some ⟨σ.heap, nx, σ.fams, σ.maps⟩ := by
  induction n generalizing σ with
  | zero => cases h; rfl
  | succ n ih =>
    unfold Pos.plus at h
    obtain ⟨hp, nx0, fm, ms⟩ := σ
    simp only at h
    cases hn : nx0.next with
    | none => rw [hn] at h; cases h
    | some q =>
      rw [hn] at h
      unfold S.bumpN
      simp only [S.bump, Pos.nextK_eq, hn, andThen_some]
      exact ih (σ := ⟨hp, q, fm, ms⟩) h
def FrO (F : S → Out) : Prop := ∀ σ e T' σ', F σ = some (e, T', σ') → σ.next.nat ≤ σ'.next.nat ∧
  ∀ p blk, p.nat < σ.next.nat → Free p σ → Own p blk → Free p σ' ∧ F (σ.lay p blk) = some (e, T', σ'.lay p blk)
section
variable {call : Caller}
theorem FrW.const {α : Type} (r : α) : FrW (fun σ => some (r, σ)) := by
  intro σ r' σ' h; cases h
  exact ⟨Nat.le_refl _, fun p blk _ hf _ => ⟨hf, rfl⟩⟩
theorem FrW.bind {α β : Type} {F : S → Option (α × S)} {G : α → S → Option (β × S)} (hF : FrW F) (hG : ∀ r, FrW (G r)) : FrW (fun σ => andThen (F σ) fun x => G x.1 x.2) := by
  intro σ r σ' h
  obtain ⟨⟨r1, σ1⟩, h1, h2⟩ := andThen_eq.1 h
  obtain ⟨g1, g2⟩ := hF σ r1 σ1 h1
  obtain ⟨g3, g4⟩ := hG r1 σ1 r σ' h2
  refine ⟨Nat.le_trans g1 g3, fun p blk hlt hf ho => ?_⟩
  obtain ⟨g5, g6⟩ := g2 p blk hlt hf ho
  obtain ⟨g7, g8⟩ := g4 p blk (Nat.lt_of_lt_of_le hlt g1) g5 ho
  exact ⟨g7, by simp only; rw [g6]; exact g8⟩
theorem FrR.bind {α β : Type} {F : S → Option α} {G : α → S → Option (β × S)} (hF : FrR F) (hG : ∀ r, FrW (G r)) : FrW (fun σ => andThen (F σ) fun x => G x σ) := by
  intro σ r σ' h
  obtain ⟨v, h1, h2⟩ := andThen_eq.1 h
  obtain ⟨g3, g4⟩ := hG v σ r σ' h2
  refine ⟨g3, fun p blk hlt hf ho => ?_⟩
  obtain ⟨g7, g8⟩ := g4 p blk hlt hf ho
  exact ⟨g7, by simp only; rw [hF _ _ h1 p blk hf ho]; exact g8⟩
theorem FrW.of_eq {α : Type} {F G : S → Option (α × S)} (h : ∀ σ, F σ = G σ) (hG : FrW G) : FrW F := by
  have : F = G := funext h
  rw [this]; exact hG
theorem op_fr (hc : Framed call) (o : POp) (T : Tm) : FrW (evalOp call o T) := by
  obtain ⟨d, g, k⟩ := o
  cases hw : wanted g T with
  | false =>
    refine FrW.of_eq (G := fun σ => some (T.put d .undef, σ)) (fun σ => ?_) (.const _)
    simp only [evalOp, hw, Tm.putK_eq]
  | true =>
    cases k with
    | q q =>
      refine FrW.of_eq (G := fun σ => andThen (evalQ q T σ) fun v => some (T.put d v, σ)) (fun σ => ?_) (FrR.bind (q_fr q T) fun v => .const _)
      simp only [evalOp, hw, opK, opQ, Tm.putK_eq]
    | a q =>
      cases ha : evalA q T with
      | none => intro σ r σ' h; simp only [evalOp, hw, opK, opA, ha] at h; cases h
      | some x =>
        obtain ⟨blk, mk⟩ := x
        refine FrW.of_eq (G := fun σ => andThen (σ.alloc blk) fun x => some (T.put d (mk x.1), x.2)) (fun σ => ?_) (FrW.bind (G := fun p σ => some (T.put d (mk p), σ)) (alloc_fr blk) fun p => .const _)
        simp only [evalOp, hw, opK, opA, ha, Tm.putK_eq, andThen_some]
    | e q =>
      refine FrW.of_eq (G := fun σ => andThen (evalE q call T σ) fun x => some (T.put d x.1, x.2)) (fun σ => ?_) (FrW.bind (G := fun v σ => some (T.put d v, σ)) (e_fr hc q T) fun v => .const _)
      simp only [evalOp, hw, opK, opE, Tm.putK_eq]
theorem ops_fr (hc : Framed call) : ∀ (l : List POp) (T : Tm), FrW (evalOps call l T)
  | [], _ => FrW.const _
  | o :: l, T => FrW.of_eq (fun σ => evalOps_cons call o l T σ) (FrW.bind (op_fr hc o T) fun T' => ops_fr hc l T')
theorem recheck_fr {T : Tm} {σ : S} {l : List POp} (h : rechecks T σ l = true) {p : Pos} {blk : Blk} (hf : Free p σ) (ho : Own p blk) : rechecks T (σ.lay p blk) l = true := by
  induction l with
  | nil => rfl
  | cons o l ih =>
    unfold rechecks at h ⊢
    obtain ⟨d, g, k⟩ := o
    have key : recheck T σ ⟨d, g, k⟩ = true → recheck T (σ.lay p blk) ⟨d, g, k⟩ = true := by
      unfold recheck
      simp only
      cases wanted g T with
      | false => exact id
      | true =>
        simp only
        unfold recheckQ
        cases k with
        | q q =>
          cases d with
          | none => exact id
          | some s =>
            simp only
            cases hq : evalQ q T σ with
            | none => intro h; cases h
            | some v => rw [q_fr q T σ v hq p blk hf ho]; exact id
        | a q => exact id
        | e q => exact id
    cases hr : recheck T σ ⟨d, g, k⟩ with
    | true => rw [hr] at h; rw [key hr]; exact ih h
    | false => rw [hr] at h; cases h
/-- A statement whose order is open: the names it keeps lie at 'base' or behind. -/
theorem d_fr (hc : Framed call) (base : Pos) (d : DOp) (T : Tm) {σ : S} {r : Tm} {σ' : S} (h : evalD call base d T σ = some (r, σ')) : σ.next.nat ≤ σ'.next.nat ∧
    ∀ p blk, p.nat < base.nat → p.nat < σ.next.nat → Free p σ → Own p blk → Free p σ' ∧ evalD call base d T (σ.lay p blk) = some (r, σ'.lay p blk) := by
  obtain ⟨ix, ⟨d, g, k⟩, checks⟩ := d
  unfold evalD at h ⊢
  simp only at h ⊢
  cases hw : wanted g T with
  | false =>
    rw [hw] at h
    simp only [Tm.putK_eq] at h ⊢
    cases h
    exact ⟨Nat.le_refl _, fun p blk _ _ hf _ => ⟨hf, rfl⟩⟩
  | true =>
    rw [hw] at h
    simp only at h ⊢
    cases k with
    | q q =>
      simp only [dK, dQ, opQ, Tm.putK_eq] at h ⊢
      have := FrR.bind (q_fr q T) (G := fun v σ => some (T.put d v, σ)) (fun v => .const _) σ r σ' h
      exact ⟨this.1, fun p blk _ hlt hf ho => this.2 p blk hlt hf ho⟩
    | a q =>
      simp only [dK, dA] at h ⊢
      obtain ⟨⟨blk', mk⟩, h1, h⟩ := andThen_eq.1 h
      simp only at h
      rw [Pos.addK_eq] at h
      cases hp : Pos.plus ix base with
      | none => rw [hp] at h; cases h
      | some q =>
        rw [hp] at h
        simp only [Tm.putK_eq] at h
        cases h
        refine ⟨by rw [lay_next]; exact Nat.le_refl _, fun p blk hlt _ hf ho => ?_⟩
        have hq : q ≠ p := fun e => by subst e; have := Pos.plus_nat hp; omega
        have hr : ∀ root vb, (blk'.named q).kind = .fam root vb → root ≠ p := by
          intro root vb hk
          obtain ⟨e, k, c⟩ := blk'
          cases k <;> simp [Blk.named] at hk
          rw [← hk.1]; exact hq
        constructor
        · exact hf.lay hq hr
        · rw [h1]
          simp only [andThen_some]
          rw [Pos.addK_eq, hp]
          simp only [Tm.putK_eq]
          rw [lay_comm hq ho hr]
    | e q =>
      simp only [dK, dE] at h ⊢
      obtain ⟨⟨v, σ1⟩, h1, h⟩ := andThen_eq.1 h
      simp only [Tm.putK_eq] at h
      obtain ⟨h2, h⟩ := test_eq.1 h
      cases h
      obtain ⟨g1, g2⟩ := e_fr hc q T σ v _ h1
      refine ⟨g1, fun p blk _ hlt hf ho => ?_⟩
      obtain ⟨g3, g4⟩ := g2 p blk hlt hf ho
      refine ⟨g3, ?_⟩
      rw [g4]
      simp only [andThen_some, Tm.putK_eq]
      rw [recheck_fr h2 g3 ho]; rfl
theorem ds_fr (hc : Framed call) (base : Pos) : ∀ (l : List DOp) (T : Tm) {σ : S} {r : Tm} {σ' : S}, evalDs call base l T σ = some (r, σ') → σ.next.nat ≤ σ'.next.nat ∧
    ∀ p blk, p.nat < base.nat → p.nat < σ.next.nat → Free p σ → Own p blk → Free p σ' ∧ evalDs call base l T (σ.lay p blk) = some (r, σ'.lay p blk)
  | [], T, σ, r, σ', h => by
    cases h
    exact ⟨Nat.le_refl _, fun p blk _ _ hf _ => ⟨hf, rfl⟩⟩
  | d :: l, T, σ, r, σ', h => by
    unfold evalDs at h
    obtain ⟨⟨T1, σ1⟩, h1, h⟩ := andThen_eq.1 h
    obtain ⟨g1, g2⟩ := d_fr hc base d T h1
    obtain ⟨g3, g4⟩ := ds_fr hc base l T1 h
    refine ⟨Nat.le_trans g1 g3, fun p blk hb hlt hf ho => ?_⟩
    obtain ⟨g5, g6⟩ := g2 p blk hb hlt hf ho
    obtain ⟨g7, g8⟩ := g4 p blk hb (Nat.lt_of_lt_of_le hlt g1) g5 ho
    refine ⟨g7, ?_⟩
    unfold evalDs
    rw [g6]; exact g8
theorem FrO.const (e : Ex) (T : Tm) : FrO (fun σ => some (e, T, σ)) := by
  intro σ e' T' σ' h; cases h
  exact ⟨Nat.le_refl _, fun p blk _ hf _ => ⟨hf, rfl⟩⟩
theorem FrO.thenC {F : S → Out} {G : Tm → S → Out} (hF : FrO F) (hG : ∀ T, FrO (G T)) : FrO (fun σ => thenC G (F σ)) := by
  intro σ e T σ' h
  obtain ⟨e1, T1, σ1, h1, h2⟩ := thenC_eq h
  obtain ⟨g1, g2⟩ := hF σ e1 T1 σ1 h1
  rcases h2 with ⟨rfl, h2⟩ | ⟨hne, h2⟩
  · obtain ⟨g3, g4⟩ := hG T1 σ1 e T σ' h2
    refine ⟨Nat.le_trans g1 g3, fun p blk hlt hf ho => ?_⟩
    obtain ⟨g5, g6⟩ := g2 p blk hlt hf ho
    obtain ⟨g7, g8⟩ := g4 p blk (Nat.lt_of_lt_of_le hlt g1) g5 ho
    refine ⟨g7, ?_⟩
    simp only
    rw [g6]; exact g8
  · cases h2
    refine ⟨g1, fun p blk hlt hf ho => ?_⟩
    obtain ⟨g5, g6⟩ := g2 p blk hlt hf ho
    refine ⟨g5, ?_⟩
    simp only
    rw [g6]
    cases e with
    | normal => exact absurd rfl hne
    | exit id => rfl
    | ret => rfl
theorem FrO.of_eq {F G : S → Out} (h : ∀ σ, F σ = G σ) (hG : FrO G) : FrO F := by
  have : F = G := funext h
  rw [this]; exact hG
theorem code_fr (hc : Framed call) (fuel : Nat) (c : PC) : ∀ T, FrO (evalC call fuel c T) := by
  induction c with
  | skip => exact fun T => FrO.const _ _
  | exit id => exact fun T => FrO.const _ _
  | ret => exact fun T => FrO.const _ _
  | ops l =>
    intro T σ e T' σ' h
    have h : cOps call l T σ = some (e, T', σ') := h
    unfold cOps at h
    obtain ⟨⟨T1, σ1⟩, h1, h⟩ := andThen_eq.1 h
    cases h
    obtain ⟨g1, g2⟩ := ops_fr hc l T σ T' σ' h1
    refine ⟨g1, fun p blk hlt hf ho => ?_⟩
    obtain ⟨g5, g6⟩ := g2 p blk hlt hf ho
    refine ⟨g5, ?_⟩
    show cOps call l T (σ.lay p blk) = _
    unfold cOps
    rw [g6]; rfl
  | draw n l =>
    intro T σ e T' σ' h
    have h : cDraw call n l T σ = some (e, T', σ') := h
    unfold cDraw at h
    obtain ⟨σ0, h0, h⟩ := andThen_eq.1 h
    obtain ⟨⟨T1, σ1⟩, h1, h⟩ := andThen_eq.1 h
    cases h
    obtain ⟨nx, k1, rfl⟩ := bumpN_eq h0
    have hn := Pos.plus_nat k1
    obtain ⟨g1, g2⟩ := ds_fr hc σ.next l T h1
    refine ⟨by simp only at g1; omega, fun p blk hlt hf ho => ?_⟩
    obtain ⟨g5, g6⟩ := g2 p blk hlt (by simp only; omega) hf.next ho
    refine ⟨g5, ?_⟩
    show cDraw call n l T (σ.lay p blk) = _
    unfold cDraw
    rw [bumpN_of (σ := σ.lay p blk) (by rw [lay_next]; exact k1)]
    simp only [andThen_some]
    rw [S.setNext_lay] at g6
    rw [lay_next, g6]; rfl
  | seq a b iha ihb => exact fun T => FrO.thenC (iha T) ihb
  | cond c a b iha ihb =>
    intro T
    have : ∀ σ, evalC call fuel (.cond c a b) T σ = cCond c (evalC call fuel a) (evalC call fuel b) T σ := fun _ => rfl
    refine FrO.of_eq this ?_
    unfold cCond
    cases c.ev T with
    | bool t => cases t with
      | true => exact iha T
      | false => exact ihb T
    | _ => intro σ e T' σ' h; cases h
  | block id c ih =>
    intro T σ e T' σ' h
    have h : cBlock id (evalC call fuel c) T σ = some (e, T', σ') := h
    unfold cBlock at h
    obtain ⟨⟨e1, T1, σ1⟩, h1, h⟩ := andThen_eq.1 h
    obtain ⟨g1, g2⟩ := ih T σ e1 T1 σ1 h1
    have hs : σ1 = σ' ∧ ∀ σ2 : S, (match (e1, T1, σ2) with
        | (e, T, σ) => match e with
          | .exit i => match Nat.beq i id with
            | true => some (.normal, T, σ)
            | false => some (.exit i, T, σ)
          | e => some (e, T, σ) : Out) = some (e, T', σ2) := by
      cases e1 with
      | normal => cases h; exact ⟨rfl, fun _ => rfl⟩
      | ret => cases h; exact ⟨rfl, fun _ => rfl⟩
      | exit i =>
        simp only at h ⊢
        cases hb : Nat.beq i id with
        | true => rw [hb] at h; cases h; exact ⟨rfl, fun _ => rfl⟩
        | false => rw [hb] at h; cases h; exact ⟨rfl, fun _ => rfl⟩
    obtain ⟨rfl, hs⟩ := hs
    refine ⟨g1, fun p blk hlt hf ho => ?_⟩
    obtain ⟨g5, g6⟩ := g2 p blk hlt hf ho
    refine ⟨g5, ?_⟩
    show cBlock id (evalC call fuel c) T (σ.lay p blk) = _
    unfold cBlock
    rw [g6]
    exact hs _
  | loop c ih =>
    have : ∀ n T, FrO (iter (evalC call fuel c) n T) := by
      intro n
      induction n with
      | zero => intro T σ e T' σ' h; cases h
      | succ n ihn => exact fun T => FrO.of_eq (fun σ => iter_succ _ _ _ _) (FrO.thenC (ih T) ihn)
    exact this fuel
theorem res_fr (T : Tm) : ∀ (l : List PRes), FrR (fun σ => resAll T σ l)
  | [], σ, v, h, p, blk, hf, ho => h
  | r :: l, σ, v, h, p, blk, hf, ho => by
    simp only at h ⊢
    unfold resAll at h ⊢
    obtain ⟨x, h1, h⟩ := andThen_eq.1 h
    have hr : resOf T (σ.lay p blk) r = some x := by
      cases r with
      | tmp s => exact h1
      | cell1 s => exact q_fr (.load1 (.tmp s)) T σ x h1 p blk hf ho
      | cellN n s => exact q_fr (.loadN n (.tmp s)) T σ x h1 p blk hf ho
    rw [hr]
    simp only [andThen_some]
    rw [headK_eq] at h ⊢
    obtain ⟨h2, h⟩ := test_eq.1 h
    obtain ⟨vs, h3, h⟩ := andThen_eq.1 h
    rw [h2, show resAll T (σ.lay p blk) l = _ from res_fr T l σ vs h3 p blk hf ho]
    exact h
theorem leave_fr (l : List PRes) (T : Tm) : FrW (leave l T) := by
  refine FrR.bind (res_fr T l) (G := fun vs σ => outVs σ vs) fun vs => ?_
  unfold outVs
  cases vs with
  | nil => exact FrW.const _
  | cons v r => cases r with
    | nil => exact FrW.const _
    | cons _ _ => exact FrW.const _
theorem runKeys_fr (off : Nat) (args : List AVal) : FrW (runKeys off args) := by
  cases args with
  | nil => exact FrW.no
  | cons v r => cases r with
    | cons _ _ => exact FrW.no
    | nil =>
      refine FrW.thenO (vFieldAddr off v) (F := fun p σ => andThen (vLoad1 p σ) fun v => keysM v σ) fun p _ => ?_
      refine FrR.bind (F := fun σ => vLoad1 p σ) (G := fun v σ => keysM v σ) ?_ fun v => ?_
      · exact q_fr (.load1 (.val p)) Ts.empty
      · cases v <;> first | exact FrW.no | exact FrW.const _ | skip
        rename_i b
        refine FrW.ofMap b (F := fun mb σ => match mb with | ⟨clock, es⟩ => test (genuine es && stampOk clock es) (andThen (keysI es) fun l => keysOut l σ)) fun mb => ?_
        obtain ⟨clock, es⟩ := mb
        refine FrW.testO _ (FrW.thenO _ fun l _ => ?_)
        cases l with
        | nil => exact FrW.const _
        | cons n l => exact newFam_fr _ _ _
theorem runF_fr (hc : Framed call) (fuel : Nat) (fn : PFn) (args : List AVal) : FrW (runF call fuel fn args) := by
  cases fn with
  | keys off => exact runKeys_fr off args
  | code slots body res =>
  have key : ∀ T, FrW (fun σ => andThen (evalC call fuel body T σ) fun x => match x with
      | (e, T, σ) => match e with
        | .normal => leave res T σ
        | .ret => leave res T σ
        | .exit _ => none) := by
    intro T σ r σ' h
    obtain ⟨⟨e, T1, σ1⟩, h1, h⟩ := andThen_eq.1 h
    obtain ⟨g1, g2⟩ := code_fr hc fuel body T σ e T1 σ1 h1
    have h2 : ∃ (_ : e = .normal ∨ e = .ret), leave res T1 σ1 = some (r, σ') := by
      cases e with
      | normal => exact ⟨.inl rfl, h⟩
      | ret => exact ⟨.inr rfl, h⟩
      | exit _ => cases h
    obtain ⟨he, h2⟩ := h2
    obtain ⟨g3, g4⟩ := leave_fr res T1 σ1 r σ' h2
    refine ⟨Nat.le_trans g1 g3, fun p blk hlt hf ho => ?_⟩
    obtain ⟨g5, g6⟩ := g2 p blk hlt hf ho
    obtain ⟨g7, g8⟩ := g4 p blk (Nat.lt_of_lt_of_le hlt g1) g5 ho
    refine ⟨g7, ?_⟩
    simp only
    rw [g6]
    rcases he with rfl | rfl <;> exact g8
  have hE : ∀ (args : List AVal) (slots : List Slot) (T : Tm), FrW (fun σ => enterK args slots T fun T => andThen (evalC call fuel body T σ) fun x => match x with
      | (e, T, σ) => match e with
        | .normal => leave res T σ
        | .ret => leave res T σ
        | .exit _ => none) := by
    intro args
    induction args with
    | nil => exact fun _ T => key T
    | cons v args ih =>
      intro slots T
      cases slots with
      | nil => intro σ r σ' h; cases h
      | cons s slots =>
        refine FrW.of_eq (fun σ => ?_) (ih slots (Ts.set s (some v) T))
        exact Ts.setK_eq _ _ _ _
  exact hE args slots _
theorem eval_fr (tab : Nat → Option PFn) : ∀ n, Framed (evalF tab n)
  | 0 => fun f args σ r σ' h => by cases h
  | n + 1 => fun f args => by
    cases hp : tab f with
    | none => intro σ r σ' h; rw [evalF_succ, hp] at h; cases h
    | some p =>
      refine FrW.of_eq (fun σ => ?_) (runF_fr (eval_fr tab n) n p args)
      rw [evalF_succ, hp]; rfl
end
end Go.Am
