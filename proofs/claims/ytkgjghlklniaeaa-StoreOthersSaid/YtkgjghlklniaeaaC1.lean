/-
  What the functions do, as conditions over the evaluator. Conditions: none.
-/
import Derived.Test.YtkgjghlklniaeaaC0
namespace Go.Am
section
variable {tab : Nat → Option PFn} {σ : S} {Q : AVal → S → Prop} {G : Nat → Prop} {d pf ps : Pos} {D : Dk} {fv sv wc : List AVal} {wv : AVal} {mw : Nat}
def Gr (σ : S) (G G' : Nat → Prop) : Prop := (∀ x, G x → G' x) ∧ ∀ x, x < σ.next.nat → G' x → G x
theorem Gr.refl (σ : S) (G : Nat → Prop) : Gr σ G G := ⟨fun _ h => h, fun _ _ h => h⟩
def Sub (σ : S) (M M' : Nat → Prop) : Prop := ∀ x, M' x → M x ∨ σ.next.nat ≤ x
theorem Sub.refl (σ : S) (M : Nat → Prop) : Sub σ M M := fun _ h => .inl h
theorem same_sl (v : AVal) {esz n m : Nat} {cs : List AVal} (h : SlAt σ v esz n cs m) : same v v = true := by
  cases v with
  | nsl => rfl
  | sl b o len cap =>
    show (b.beq b && (Nat.beq o o && (Nat.beq len len && Nat.beq cap cap))) = true
    rw [Pos.beq_refl, Nat.beq_refl, Nat.beq_refl, Nat.beq_refl]; rfl
  | slu b o len z =>
    show (b.beq b && (Nat.beq o o && (Nat.beq len len && Nat.beq z z))) = true
    rw [Pos.beq_refl, Nat.beq_refl, Nat.beq_refl, Nat.beq_refl]; rfl
  | _ => exact h.2.elim
theorem same_sl' (p : Pos) (o l c : Nat) : same (.sl p o l c) (.sl p o l c) = true := by
  show (p.beq p && (Nat.beq o o && (Nat.beq l l && Nat.beq c c))) = true
  rw [Pos.beq_refl, Nat.beq_refl, Nat.beq_refl, Nat.beq_refl]; rfl
theorem same_int (k : IntKind) (n : Int) : same (.int k n) (.int k n) = true := by
  show (match keq k k with | true => ieq n n | false => false) = true
  rw [keq_iff.2 rfl]; exact ieq_iff.2 rfl
theorem SameO_of {o : Option AVal} {v : AVal} (h : o = some v) (hs : same v v = true) : SameO o v = true := by rw [h]; exact hs
theorem Sure_of {b : Bool} {A : Prop} (h : b = true) (k : A) : Sure b A := ⟨h, k⟩
theorem made4c (a b c e z1 z2 z3 z4 : AVal) : aSliceV 4 [z1, z2, z3, z4] 1 [(0, 4, .agg [a, b, c, e])] = some (⟨4, .ex, [a, b, c, e]⟩, fun p => .sl p 0 1 1) := by
  unfold aSliceV
  have e : fillA (repN 1 [z1, z2, z3, z4]) [(0, 4, .agg [a, b, c, e])] = some [a, b, c, e] := rfl
  rw [e]; rfl
theorem ex4 {σ' : S} {p : Pos} {a b c e : AVal} (hb : σ'.blk p = some ⟨4, .ex, [a, b, c, e]⟩) : SlAt σ' (.sl p 0 1 1) 4 1 [a, b, c, e] p.nat :=
  ⟨rfl, rfl, Nat.le_refl _, fun _ => ⟨_, hb, rfl, by show 0 + 1 * 4 ≤ 4; omega, rfl⟩⟩
theorem lset_get {α : Type} {l : List α} {k i : Nat} {x v : α} (h : (l.set k x)[i]? = some v) : (i = k ∧ v = x) ∨ (i ≠ k ∧ l[i]? = some v) := by
  by_cases e : i = k
  · subst e
    rw [List.getElem?_set_self'] at h
    cases hl : l[i]? with
    | none => rw [hl] at h; cases h
    | some y => rw [hl] at h; cases h; exact .inl ⟨rfl, rfl⟩
  · rw [List.getElem?_set_ne (fun h => e h.symm)] at h
    exact .inr ⟨e, h⟩
theorem DkAt.note (h : DkAt σ G d D pf ps fv sv wv wc mw) (ho : Ok σ) (hok : DkOk D) (c : Chg) {pv x : AVal} {mx : Nat} (hx : SlAt σ x 4 1 [.bool c.cut, .int .i64 (c.file : Int), .int .i64 (c.at_ : Int), pv] mx) (hp : Im σ G pv c.p) :
    ∃ w' σ1 mw' wc', appendA 4 48 wv x σ = some (w', σ1) ∧ vLoad1 (.ptr d 3) σ1 = some wv ∧ Keep (fun y => y = mw) σ σ1 ∧ (mw' = mw ∨ σ.next.nat ≤ mw') ∧
      σ1.blk d = some ⟨0, .ex, [.int .i64 (D.quota : Int), .sl pf 0 64 64, .sl ps 0 64 64, wv, .int .i64 (D.armed : Int), .bool D.off]⟩ ∧ cellsOf w' = some [w'] ∧
      DkAt (σ1.upd d ⟨0, .ex, [.int .i64 (D.quota : Int), .sl pf 0 64 64, .sl ps 0 64 64, w', .int .i64 (D.armed : Int), .bool D.off]⟩) (fun y => G y ∨ y = mw') d { D with wait := D.wait ++ [c] } pf ps fv sv w' wc' mw' ∧
      Keep (fun y => y = d.nat) σ1 (σ1.upd d ⟨0, .ex, [.int .i64 (D.quota : Int), .sl pf 0 64 64, .sl ps 0 64 64, w', .int .i64 (D.armed : Int), .bool D.off]⟩) := by
  obtain ⟨w', σ1, mw', a1, g1, k1, l1⟩ := append_gr ho h.wg hx.slLen (hx.slRead (Nat.le_refl 1)) (by rw [List.length_take]; show min (1 * 4) 4 = 1 * 4; rfl) (bytes := 48) (by have := hok.wn; omega)
  have hnd : ¬ d.nat = mw := fun e => h.n4 e.symm
  have hnf : ¬ pf.nat = mw := fun e => h.n5 e.symm
  have hns : ¬ ps.nat = mw := fun e => h.n6 e.symm
  have b1 := k1.old _ _ h.blk hnd
  have hl1 : mw' = mw ∨ σ.next.nat ≤ mw' := by omega
  have hdl := ho.lt h.blk
  have hfl := ho.lt h.fb
  have hsl := ho.lt h.sb
  have hG : ∀ y, y = mw → G y := fun y e => by rw [e]; exact h.g4
  have k2 := Keep.upd k1.ok b1 (c := ⟨0, .ex, [.int .i64 (D.quota : Int), .sl pf 0 64 64, .sl ps 0 64 64, w', .int .i64 (D.armed : Int), .bool D.off]⟩) rfl
  have k2' : Keep (fun y => y = d.nat) σ1 _ := k2
  have hGd : ∀ y, y = d.nat → G y := fun y e => by rw [e]; exact h.g1
  have ne1 : pf.nat ≠ d.nat := fun e => h.n1 (Pos.nat_inj e.symm)
  have ne2 : ps.nat ≠ d.nat := fun e => h.n2 (Pos.nat_inj e.symm)
  have im : ∀ {v : AVal} {bs : List Nat}, Im σ G v bs → Im (σ1.upd d ⟨0, .ex, [.int .i64 (D.quota : Int), .sl pf 0 64 64, .sl ps 0 64 64, w', .int .i64 (D.armed : Int), .bool D.off]⟩) (fun y => G y ∨ y = mw') v bs := fun hi => by
    have hi0 : Im σ (fun y => G y ∨ y = mw') _ _ := hi.grow ho fun y hy hm => hm.elim (fun h => h) fun e => by
      rcases hl1 with e' | e'
      · rw [e, e']; exact h.g4
      · omega
    exact (hi0.keep k1 fun y e => .inl (hG y e)).keep k2' fun y e => .inl (hGd y e)
  have hlw := h.wg.1
  refine ⟨w', σ1, mw', wc ++ [.bool c.cut, .int .i64 (c.file : Int), .int .i64 (c.at_ : Int), pv], a1, ld b1 rfl, k1, hl1, b1, g1.sl.cells, ⟨blk_upd_same _ _, k2'.old _ _ (k1.old _ _ h.fb hnf) ne1, k2'.old _ _ (k1.old _ _ h.sb hns) ne2, h.fl, h.sl, h.fd, h.sd,
    fun i v bs a b => im (h.ff i v bs a b), fun i v bs a b => im (h.ss i v bs a b), ?_, ?_, h.n1, h.n2, h.n3, ?_, ?_, ?_, .inl h.g1, .inl h.g2, .inl h.g3, .inr rfl, ?_⟩, k2'⟩
  · have hne : ¬ mw' = d.nat := by rcases hl1 with e | e <;> omega
    have := g1.keep hne k2'
    rw [show (D.wait ++ [c]).length = D.wait.length + 1 by simp]
    simpa using this
  · intro i c' hc'
    by_cases hi : i < D.wait.length
    · rw [List.getElem?_append_left hi] at hc'
      obtain ⟨pv', a, b⟩ := h.ww i c' hc'
      refine ⟨pv', ?_, im b⟩
      rw [← a, List.drop_append_of_le_length (by omega), List.take_append_of_le_length (by rw [List.length_drop]; omega)]
    · rw [List.getElem?_append_right (by omega)] at hc'
      have hi0 : i - D.wait.length = 0 := by
        cases hk : i - D.wait.length with
        | zero => rfl
        | succ k => rw [hk] at hc'; simp at hc'
      rw [hi0] at hc'
      have : c = c' := by simpa using hc'
      subst this
      have hii : i = D.wait.length := by omega
      refine ⟨pv, ?_, im hp⟩
      rw [hii, ← hlw, List.drop_left]; rfl
  · rcases hl1 with e | e <;> omega
  · rcases hl1 with e | e <;> omega
  · rcases hl1 with e | e <;> omega
  · intro y hy
    show y < σ1.next.nat
    have hn := k1.next
    rcases hy with hy | hy
    · have := h.gl y hy; omega
    · rw [hy]
      rcases l1 with e | e
      · rw [e]; have := h.gl mw h.g4; omega
      · exact e.2
theorem DkAt.setF (h : DkAt σ G d D pf ps fv sv wv wc mw) (ho : Ok σ) {k : Nat} (_hk : k < 64) {v : AVal} {bs : List Nat} (hv : Im σ G v bs) :
    DkAt (σ.upd pf ⟨1, .ex, fv.set k v⟩) G d { D with files := D.files.set k bs } pf ps (fv.set k v) sv wv wc mw ∧ Keep (fun y => y = pf.nat) σ (σ.upd pf ⟨1, .ex, fv.set k v⟩) := by
  have k1 := Keep.upd ho h.fb (c := ⟨1, .ex, fv.set k v⟩) rfl
  have k1' : Keep (fun y => y = pf.nat) σ _ := k1
  have hG : ∀ y, y = pf.nat → G y := fun y e => by rw [e]; exact h.g2
  have ne1 : d.nat ≠ pf.nat := fun e => h.n1 (Pos.nat_inj e)
  have ne2 : ps.nat ≠ pf.nat := fun e => h.n3 (Pos.nat_inj e.symm)
  refine ⟨⟨k1'.old _ _ h.blk ne1, blk_upd_same _ _, k1'.old _ _ h.sb ne2, by rw [List.length_set]; exact h.fl, h.sl, by show (D.files.set k bs).length = 64; rw [List.length_set]; exact h.fd, h.sd, fun i w cs a b => ?_,
    fun i w cs a b => (h.ss i w cs a b).keep k1' hG, h.wg.keep h.n5 k1', fun i c hc => let ⟨pv, a, b⟩ := h.ww i c hc; ⟨pv, a, b.keep k1' hG⟩, h.n1, h.n2, h.n3, h.n4, h.n5, h.n6, h.g1, h.g2, h.g3, h.g4, fun x hx => h.gl x hx⟩, k1'⟩
  rcases lset_get a with ⟨e1, e2⟩ | ⟨e1, e2⟩
  · rcases lset_get b with ⟨f1, f2⟩ | ⟨f1, f2⟩
    · rw [e2, f2]; exact hv.keep k1' hG
    · exact absurd e1 f1
  · rcases lset_get b with ⟨f1, f2⟩ | ⟨f1, f2⟩
    · exact absurd f1 e1
    · exact (h.ff i w cs e2 f2).keep k1' hG
def Dk.file (D : Dk) (k : Nat) : List Nat := D.files.getD k []
def Dk.room (D : Dk) (k a n : Nat) : Prop := ¬ (a + n > (D.file k).length ∧ D.held - (D.file k).length + a + n > D.quota)
def Dk.write (D : Dk) (k a : Nat) (p : List Nat) : Dk := { D with files := D.files.set k (writtenF (D.file k) a p), wait := D.wait ++ [⟨false, k, a, p⟩] }
theorem Dk.file_of {k : Nat} {bs : List Nat} (h : D.files[k]? = some bs) : D.file k = bs := by
  unfold Dk.file; rw [List.getD_eq_getElem?_getD, h]; rfl
theorem Write_g (ht : Tab tab) (ho : Ok σ) (h : DkAt σ G d D pf ps fv sv wv wc mw) (hok : DkOk D) (hwn : D.wait.length < 1000000000) {k a : Nat} {v : AVal} {p : List Nat} {m : Nat} (hk : k < 64) (hv : BySl σ v p m) (hpb : Bytes p) (hm : p ≠ [] → ¬ G m) (ha : a ≤ 1000000000) (hpl : p.length ≤ 4611686018427387904)
    (hO : ∀ σ', D.count.off = true → DkAt σ' G d D.count pf ps fv sv wv wc mw → Keep (dM d pf ps mw) σ σ' → Q (.int .i64 11) σ')
    (hA : ∀ σ', D.count.off = false → a > 1048576 → DkAt σ' G d D.count pf ps fv sv wv wc mw → Keep (dM d pf ps mw) σ σ' → Q (.int .i64 1) σ')
    (hF : ∀ σ', D.count.off = false → a ≤ 1048576 → ¬ D.count.room k a p.length → DkAt σ' G d D.count pf ps fv sv wv wc mw → Keep (dM d pf ps mw) σ σ' → Q (.int .i64 10) σ')
    (hS : ∀ σ' G' fv' wv' wc' mw', D.count.off = false → a ≤ 1048576 → D.count.room k a p.length → DkAt σ' G' d (D.count.write k a p) pf ps fv' sv wv' wc' mw' → Keep (dM d pf ps mw) σ σ' → Gr σ G G' → (mw' = mw ∨ σ.next.nat ≤ mw') → Q (.int .i64 0) σ') :
    WF tab 10 [.ptr d 0, .int .i64 (k : Int), .int .i64 (a : Int), v] σ Q := by
  refine f10_wf ht.t10 ?_
  unfold f10
  refine counted_c ht ho h hok fun σ1 h1 k1 => ?_
  have k1' : Keep (dM d pf ps mw) σ σ1 := k1.mono fun x e => .inl e
  refine Som_of (un_not _) ?_
  rw [Bool.not_not]
  have hok1 := hok.count
  have hwn1 : D.count.wait.length < 1000000000 := by rw [Dk.count_wait]; exact hwn
  generalize D.count = D1 at *
  cases hoff : D1.off with
  | true =>
    rw [WIf_true, Ret_1 rfl]
    exact hO σ1 hoff h1 k1'
  | false =>
    rw [WIf_false]
    refine there_c ht ?_
    rw [decide_eq_true (show 0 ≤ (k : Int) ∧ (k : Int) < 64 by omega)]
    refine Som_of (un_not _) ?_
    rw [show (!true) = false from rfl]
    refine Som_of rfl (Sq_of rfl (bin_lss _ _ _ _) (Som_of rfl ?_))
    rw [decide_eq_false (by omega)]
    refine Som_of rfl (Sq_of rfl (bin_gtr _ _ _ _) (Som_of rfl ?_))
    refine WIf_dec (fun hbig => ?_) (fun hsm => ?_)
    · rw [Ret_1 rfl]
      exact hA σ1 hoff (by omega) h1 k1'
    have hhl := hok1.held_le h1.fd
    obtain ⟨fb, old, q1, q2, q3, q4, mo, q5, _⟩ := h1.file hk
    have hfile := Dk.file_of q3
    have hold := hok1.fl old (List.mem_of_getElem? q3)
    have hsum : old.length ≤ D1.held := sumL_mem q3
    have hv1 : BySl σ1 v p m := hv.keep (fun hz e => hm (ne_nil_of hz) (by rw [e]; exact h.g1)) k1
    refine Som_of rfl (Som_of (vField0 _ _ _) (Som_of (ld h1.blk rfl) (Som_of q1 (Som_of q4 (Som_of q5.len (Som_of hv1.len (Som_of (bin_add _ _ _ _) (Som_of (bin_gtr _ _ _ _) ?_))))))))
    rw [wrap_i64_in (n := (a : Int) + (p.length : Int)) (by omega) (by omega)]
    have done : ∀ σ3, Keep0 σ1 σ3 → D1.room k a p.length →
        Som (vNilck (.ptr d 0)) fun t55 => Som (vFieldAddr 1 t55) fun t56 => Som (vLoad1 t56 (σ3.bumpT 17)) fun t57 => Som (vNilck (.ptr d 0)) fun t60 => Som (vFieldAddr 1 t60) fun t61 => Som (vLoad1 t61 (σ3.bumpT 17)) fun t62 =>
        Som (vIxSl 1 t62 (.int .i64 (k : Int))) fun t64 => Som (vLoad1 t64 (σ3.bumpT 17)) fun t65 => WF tab 39 [t65, .int .i64 (a : Int), v] (σ3.bumpT 17) fun t68 σ4 => Sure (SameO (vLoad1 t56 σ4) t57) <|
        Som (vIxSl 1 t57 (.int .i64 (k : Int))) fun t69 => Eff (storeW 1 t69 t68 σ4) fun _ σ5 => Som (vNilck (.ptr d 0)) fun t72 => Som (vFieldAddr 3 t72) fun t73 => Som (vLoad1 t73 (σ5.bumpT 15)) fun t74 =>
        Eff (appendA 1 1 .nsl v (σ5.bumpT 15)) fun t78 σ6 => Sure (SameO (vLoad1 t73 σ6) t74) <|
        Som (vBuild [(.bool false), (.int .i64 0), (.int .i64 0), .nsl] [(1, 1, .int .i64 (k : Int)), (2, 1, .int .i64 (a : Int)), (3, 1, t78)]) fun t79 =>
        Alb (aSliceV 4 [(.bool false), (.int .i64 0), (.int .i64 0), .nsl] 1 [(0, 4, t79)]) (Pos.plusT 10 σ5.next) σ6 fun t80 σ7 =>
        Eff (appendA 4 48 t74 t80 σ7) fun t81 σ8 => Som (vNilck (.ptr d 0)) fun t82 => Som (vFieldAddr 3 t82) fun t83 => Eff (storeW 1 t83 t81 σ8) fun _ σ9 => Ret [some (.int .i64 0)] σ9 Q := by
      intro σ3 k3 hroom
      have h3 := h1.keep0 k3
      have k3b : Keep0 σ3 (σ3.bumpT 17) := Keep.bump k3.ok 17
      have h3b := h3.keep0 k3b
      have hvb := (hv1.keep (fun _ h => h) k3).keep (fun _ h => h) k3b
      obtain ⟨fb', old', r1, r2, r3, r4, mo', r5, _⟩ := h3b.file hk
      have ho' : old' = old := by rw [q3] at r3; cases r3; rfl
      subst ho'
      refine Som_of rfl (Som_of (vField0 _ _ _) (Som_of (ld h3b.blk rfl) (Som_of rfl (Som_of (vField0 _ _ _) (Som_of (ld h3b.blk rfl) (Som_of r1 (Som_of r4 ?_)))))))
      have hpl2 : a + p.length ≤ 1000000000 := by
        unfold Dk.room at hroom
        rw [hfile] at hroom
        have := hok1.q
        omega
      refine written_c ht k3b.ok r5 hvb (by omega) hpl2 fun r σ4 m4 s4 k4 l4 => ?_
      have h4 := h3b.keep0 k4
      have hG4 : ¬ G m4 := fun hg => by have := h3b.gl m4 hg; omega
      refine Sure_of (SameO_of (ld h4.blk rfl) (same_sl' _ _ _ _)) ?_
      obtain ⟨fb4, old4, u1, u2, u3, u4, mo4, u5, _⟩ := h4.file hk
      refine Som_of u1 ?_
      refine Eff_of (store1_of h4.fb (by rw [h4.fl]; exact hk) s4.cells) ?_
      obtain ⟨h5, k5⟩ := h4.setF k4.ok hk (Im.of_fresh s4 hG4)
      have k14 : Keep0 σ1 σ4 := (k3.trans k3b).trans k4
      generalize σ4.upd pf ⟨1, .ex, fv.set k r⟩ = σ5 at *
      have k5b : Keep0 σ5 (σ5.bumpT 15) := Keep.bump k5.ok 15
      have h5b := h5.keep0 k5b
      refine Som_of rfl (Som_of (vField0 _ _ _) (Som_of (ld h5b.blk rfl) ?_))
      have k15 : Keep (dM d pf ps mw) σ1 (σ5.bumpT 15) := ((Keep0.to k14).trans (k5.mono fun x e => .inr (.inl e))).trans (Keep0.to k5b)
      have hv5 : BySl (σ5.bumpT 15) v p m := hv1.keep (fun hz e => hm (ne_nil_of hz) (by
        rcases e with e | e | e | e
        · rw [e]; exact h.g1
        · rw [e]; exact h.g2
        · rw [e]; exact h.g3
        · rw [e]; exact h.g4)) k15
      obtain ⟨v6, σ6, m6, a6, g6, k6, l6⟩ := append_sl k5b.ok (ByGr.nil (σ5.bumpT 15) (σ5.bumpT 15).next.nat) hv5 (by rw [List.length_nil]; omega)
      rw [List.nil_append] at g6
      have k6' : Keep0 (σ5.bumpT 15) σ6 := Keep.empty k5b.ok (Nat.le_refl _) k6
      have h6 := h5b.keep0 k6'
      refine Eff_of a6 ?_
      refine Sure_of (SameO_of (ld h6.blk rfl) (same_sl _ h.wg.sl)) ?_
      have hbd : vBuild [AVal.bool false, .int .i64 0, .int .i64 0, .nsl] [(1, 1, .int .i64 (k : Int)), (2, 1, .int .i64 (a : Int)), (3, 1, v6)] = some (.agg [.bool false, .int .i64 (k : Int), .int .i64 (a : Int), v6]) := by
        unfold vBuild
        simp only [fillA, g6.sl.cells, andThen_s]
        rfl
      refine Som_of hbd (Alb_of (made4c _ _ _ _ _ _ _ _) ?_)
      have hp10 : (Pos.plusT 10 σ5.next).nat = σ5.next.nat + 10 := plusT_nat 10 _
      have hnx := k6'.next
      rw [next_bump] at hnx
      have hun : Unused σ6 (Pos.plusT 10 σ5.next) := k6'.unused _ (by rw [next_bump]; omega) (k5.ok.free _ (by omega))
      have k56 : Keep0 σ5 σ6 := k5b.trans k6'
      obtain ⟨k7, more7, _⟩ := Keep.layD k56 ⟨4, .ex, [.bool false, .int .i64 (k : Int), .int .i64 (a : Int), v6]⟩ hun (by omega) (by omega)
      have b7 : (σ6.lay (Pos.plusT 10 σ5.next) (Blk.named ⟨4, .ex, [.bool false, .int .i64 (k : Int), .int .i64 (a : Int), v6]⟩ (Pos.plusT 10 σ5.next))).blk (Pos.plusT 10 σ5.next) = some ⟨4, .ex, [.bool false, .int .i64 (k : Int), .int .i64 (a : Int), v6]⟩ := by rw [blk_lay, if_pos rfl]; rfl
      have g7 : BySl (σ6.lay (Pos.plusT 10 σ5.next) (Blk.named ⟨4, .ex, [.bool false, .int .i64 (k : Int), .int .i64 (a : Int), v6]⟩ (Pos.plusT 10 σ5.next))) v6 p m6 := SlAt.more g6.sl more7
      have h7 := h5.keep0 k7
      generalize σ6.lay (Pos.plusT 10 σ5.next) (Blk.named ⟨4, .ex, [.bool false, .int .i64 (k : Int), .int .i64 (a : Int), v6]⟩ (Pos.plusT 10 σ5.next)) = σ7 at *
      have n14 := k14.next; have n5 := k5.next; have n01 := k1.next
      have hG6 : ¬ G m6 := fun hg => by have := h.gl m6 hg; have := next_bump (σ := σ5) 15; omega
      have hwl : (writtenF old' a p).length ≤ 2097152 := by
        rw [writtenF_len]
        unfold Dk.room at hroom
        rw [hfile] at hroom
        have := hok1.q
        have := hold.1
        omega
      have hok5 : DkOk { D1 with files := D1.files.set k (writtenF old' a p) } := ⟨hok1.q, fun f hf => by
        rcases List.mem_or_eq_of_mem_set hf with hf | hf
        · exact hok1.fl f hf
        · rw [hf]; exact ⟨hwl, writtenF_bytes hold.2 hpb⟩, hok1.sl, hok1.wl, hok1.wn, hok1.ar⟩
      obtain ⟨w8, σ8, mw8, wc8, e1, e2, k8, l8, b8, c8, h9, k9⟩ := h7.note k7.ok hok5 ⟨false, k, a, p⟩ (ex4 b7) (Im.of_fresh g7 hG6)
      refine Eff_of e1 ?_
      refine Som_of rfl (Som_of (vField0 _ _ _) (Eff_of (store1_of b8 (by simp) c8) ?_))
      rw [Ret_1 rfl]
      have n7 := k7.next
      have k17 : Keep (dM d pf ps mw) σ1 σ7 := ((Keep0.to k14).trans (k5.mono fun x e => .inr (.inl e))).trans (Keep0.to k7)
      have k89a : Keep (dM d pf ps mw) σ7 σ8 := k8.mono fun x e => .inr (.inr (.inr e))
      have k89b := k9.mono (N := dM d pf ps mw) fun x e => .inl e
      have e9 : Dk.write D1 k a p = { { D1 with files := D1.files.set k (writtenF old' a p) } with wait := D1.wait ++ [⟨false, k, a, p⟩] } := by
        unfold Dk.write; rw [hfile]
      refine hS _ _ _ _ _ _ hoff (by omega) hroom (by rw [e9]; exact h9) ((k1'.trans k17).trans (k89a.trans k89b)) (⟨fun x hx => Or.inl hx, fun x hx hg => ?_⟩ : Gr σ G fun y => G y ∨ y = mw8) (by omega)
      rcases hg with hg | hg
      · exact hg
      · rcases l8 with e | e
        · rw [hg, e]; exact h.g4
        · omega
    by_cases hgt : a + p.length > old.length
    · rw [decide_eq_true (by omega)]
      have k2b : Keep0 σ1 (σ1.bumpT 22) := Keep.bump k1.ok 22
      have h2b := h1.keep0 k2b
      refine Som_of rfl (Som_of rfl (Som_of rfl (Som_of rfl (Sq_of rfl hv1.len (Som_of rfl (Sq_of rfl rfl (Sq_of rfl (vField0 _ _ _) (Sq_of rfl (ld h2b.blk rfl) ?_))))))))
      refine GE_t rfl ?_
      refine held_c ht h2b hok1 ?_
      refine Sure_of ?_ ?_
      · rw [SameO_of (ld h2b.blk rfl) (same_int _ _)]; rfl
      refine Sq_of rfl (bin_sub _ _ _ _) (Sq_of rfl (bin_add _ _ _ _) (Sq_of rfl (bin_add _ _ _ _) (Sq_of rfl (bin_gtr _ _ _ _) (Som_of rfl ?_))))
      rw [wrap_i64_in (n := (D1.held : Int) - (old.length : Int)) (by omega) (by omega), wrap_i64_in (n := (D1.held : Int) - (old.length : Int) + (a : Int)) (by omega) (by omega), wrap_i64_in (n := (D1.held : Int) - (old.length : Int) + (a : Int) + (p.length : Int)) (by omega) (by omega)]
      refine WIf_dec (fun hful => ?_) (fun hfit => ?_)
      · rw [Ret_1 rfl]
        refine hF _ hoff (by omega) ?_ h2b (k1'.trans (Keep0.to k2b))
        intro hr
        unfold Dk.room at hr
        rw [hfile] at hr
        exact hr ⟨hgt, by omega⟩
      · refine done _ k2b ?_
        unfold Dk.room
        rw [hfile]
        rintro ⟨_, hh⟩
        omega
    · rw [decide_eq_false (by omega)]
      refine Som_of rfl (Som_of rfl (Som_of rfl (Som_of rfl (Som_of rfl (Som_of rfl (Som_of rfl (Som_of rfl (Som_of rfl ?_))))))))
      refine GE_n rfl ?_
      refine Som_of rfl (Som_of rfl (Som_of rfl (Som_of rfl (Som_of rfl ?_))))
      rw [WIf_false]
      exact done _ (Keep.bump k1.ok 22) fun hh => hgt (by rw [hfile] at hh; exact hh.1)
theorem Write_c (ht : Tab tab) (ho : Ok σ) (h : DkAt σ G d D pf ps fv sv wv wc mw) (hok : DkOk D) (hwn : D.wait.length < 1000000000) {k a : Nat} {v : AVal} {p : List Nat} {m : Nat} (hk : k < 64) (hv : BySl σ v p m) (hpb : Bytes p) (hm : p ≠ [] → ¬ G m) (ha : a ≤ 1000000000) (hpl : p.length ≤ 1000000000000)
    (hO : ∀ σ', D.count.off = true → DkAt σ' G d D.count pf ps fv sv wv wc mw → Keep (dM d pf ps mw) σ σ' → Q (.int .i64 11) σ')
    (hA : ∀ σ', D.count.off = false → a > 1048576 → DkAt σ' G d D.count pf ps fv sv wv wc mw → Keep (dM d pf ps mw) σ σ' → Q (.int .i64 1) σ')
    (hF : ∀ σ', D.count.off = false → a ≤ 1048576 → ¬ D.count.room k a p.length → DkAt σ' G d D.count pf ps fv sv wv wc mw → Keep (dM d pf ps mw) σ σ' → Q (.int .i64 10) σ')
    (hS : ∀ σ' G' fv' wv' wc' mw', D.count.off = false → a ≤ 1048576 → D.count.room k a p.length → DkAt σ' G' d (D.count.write k a p) pf ps fv' sv wv' wc' mw' → Keep (dM d pf ps mw) σ σ' → Gr σ G G' → (mw' = mw ∨ σ.next.nat ≤ mw') → Q (.int .i64 0) σ') :
    WF tab 10 [.ptr d 0, .int .i64 (k : Int), .int .i64 (a : Int), v] σ Q := Write_g ht ho h hok hwn hk hv hpb hm ha (by omega) hO hA hF hS
end
end Go.Am
namespace Go.Am
section
variable {tab : Nat → Option PFn} {σ : S} {Q : AVal → S → Prop} {G : Nat → Prop} {d pf ps : Pos} {D : Dk} {fv sv wc : List AVal} {wv : AVal} {mw : Nat}
def Dk.cutF (D : Dk) (k n : Nat) : Dk := { D with files := D.files.set k ((D.file k).take n), wait := D.wait ++ [⟨true, k, n, []⟩] }
theorem Cut_c (ht : Tab tab) (ho : Ok σ) (h : DkAt σ G d D pf ps fv sv wv wc mw) (hok : DkOk D) (hwn : D.wait.length < 1000000000) {k n : Nat} (hk : k < 64) (hn : n ≤ (D.file k).length)
    (hO : ∀ σ', D.count.off = true → DkAt σ' G d D.count pf ps fv sv wv wc mw → Keep (dM d pf ps mw) σ σ' → Q (.int .i64 11) σ')
    (hS : ∀ σ' G' fv' wv' wc' mw', D.count.off = false → DkAt σ' G' d (D.count.cutF k n) pf ps fv' sv wv' wc' mw' → Keep (dM d pf ps mw) σ σ' → Gr σ G G' → (mw' = mw ∨ σ.next.nat ≤ mw') → Q (.int .i64 0) σ') :
    WF tab 43 [.ptr d 0, .int .i64 (k : Int), .int .i64 (n : Int)] σ Q := by
  refine f43_wf ht.t43 ?_
  unfold f43
  refine counted_c ht ho h hok fun σ1 h1 k1 => ?_
  have k1' : Keep (dM d pf ps mw) σ σ1 := k1.mono fun x e => .inl e
  refine Som_of (un_not _) ?_
  rw [Bool.not_not]
  have hok1 := hok.count
  have hwn1 : D.count.wait.length < 1000000000 := by rw [Dk.count_wait]; exact hwn
  have hn1 : n ≤ (D.count.file k).length := by unfold Dk.file; rw [Dk.count_files]; exact hn
  generalize D.count = D1 at *
  cases hoff : D1.off with
  | true =>
    rw [WIf_true, Ret_1 rfl]
    exact hO σ1 hoff h1 k1'
  | false =>
    rw [WIf_false]
    refine there_c ht ?_
    rw [decide_eq_true (show 0 ≤ (k : Int) ∧ (k : Int) < 64 by omega)]
    refine Som_of (un_not _) ?_
    rw [show (!true) = false from rfl]
    refine Som_of rfl (Sq_of rfl (bin_lss _ _ _ _) (Som_of rfl ?_))
    rw [decide_eq_false (by omega)]
    obtain ⟨fb, old, q1, q2, q3, q4, mo, q5, q6⟩ := h1.file hk
    have hfile := Dk.file_of q3
    rw [hfile] at hn1
    have hold := hok1.fl old (List.mem_of_getElem? q3)
    refine Som_of rfl (Som_of rfl (Sq_of rfl rfl (Sq_of rfl (vField0 _ _ _) (Sq_of rfl (ld h1.blk rfl) (Som_of rfl (Sq_of rfl q1 (Sq_of rfl q4 (Sq_of rfl q5.len (Sq_of rfl (bin_gtr _ _ _ _) (Som_of rfl ?_))))))))))
    refine WIf_f (by omega) ?_
    have k2 : Keep0 σ1 (σ1.bumpT 17) := Keep.bump k1.ok 17
    have h2 := h1.keep0 k2
    have q5' := q5.keep (M := fun _ => False) (fun _ h => h) k2
    obtain ⟨x42, a42, s42⟩ := BySl.cutH q5' hn1
    have q4' : vLoad1 (.ptr pf k) (σ1.bumpT 17) = some fb := ld h2.fb q2
    refine Som_of rfl (Som_of (vField0 _ _ _) (Som_of (ld h2.blk rfl) (Som_of rfl (Som_of (vField0 _ _ _) (Som_of (ld h2.blk rfl) (Som_of q1 (Som_of q4' (Som_of a42 ?_))))))))
    obtain ⟨v3, σ3, m3, a3, g3, k3, l3⟩ := append_sl k2.ok (ByGr.nil (σ1.bumpT 17) (σ1.bumpT 17).next.nat) s42 (by rw [List.length_nil, List.length_take]; omega)
    rw [List.nil_append] at g3
    have k3' : Keep0 (σ1.bumpT 17) σ3 := Keep.empty k2.ok (Nat.le_refl _) k3
    have h3 := h2.keep0 k3'
    refine Eff_of a3 (Sure_of (SameO_of (ld h3.blk rfl) (same_sl' _ _ _ _)) ?_)
    refine Som_of q1 (Eff_of (store1_of h3.fb (by rw [h3.fl]; exact hk) g3.sl.cells) ?_)
    have hG3 : ¬ G m3 := fun hg => by have := h2.gl m3 hg; omega
    obtain ⟨h4, k4⟩ := h3.setF k3'.ok hk (Im.of_fresh g3.sl hG3)
    have n2 := k2.next; have n3 := k3'.next; have n4 := k4.next; have n1 := k1.next
    have k14 : Keep (dM d pf ps mw) σ1 (σ3.upd pf ⟨1, .ex, fv.set k v3⟩) := ((Keep0.to k2).trans (Keep0.to k3')).trans (k4.mono fun x e => .inr (.inl e))
    generalize σ3.upd pf ⟨1, .ex, fv.set k v3⟩ = σ4 at *
    refine Som_of rfl (Som_of (vField0 _ _ _) (Som_of (ld h4.blk rfl) ?_))
    have hbd : vBuild [AVal.bool false, .int .i64 0, .int .i64 0, .nsl] [(0, 1, .bool true), (1, 1, .int .i64 (k : Int)), (2, 1, .int .i64 (n : Int))] = some (.agg [.bool true, .int .i64 (k : Int), .int .i64 (n : Int), .nsl]) := rfl
    refine Som_of hbd (Ala_of (made4c _ _ _ _ _ _ _ _) ?_)
    have k5 : Keep0 σ4 (σ4.new ⟨4, .ex, [.bool true, .int .i64 (k : Int), .int .i64 (n : Int), .nsl]⟩) := Keep.new k4.ok _
    have b5 : (σ4.new ⟨4, .ex, [.bool true, .int .i64 (k : Int), .int .i64 (n : Int), .nsl]⟩).blk σ4.next = some ⟨4, .ex, [.bool true, .int .i64 (k : Int), .int .i64 (n : Int), .nsl]⟩ := by rw [blk_new, if_pos rfl]; rfl
    have h5 := h4.keep0 k5
    generalize σ4.new ⟨4, .ex, [.bool true, .int .i64 (k : Int), .int .i64 (n : Int), .nsl]⟩ = σ5 at *
    have hok5 : DkOk { D1 with files := D1.files.set k (old.take n) } := ⟨hok1.q, fun f hf => by
        rcases List.mem_or_eq_of_mem_set hf with hf | hf
        · exact hok1.fl f hf
        · rw [hf]; exact ⟨by rw [List.length_take]; omega, hold.2.take n⟩, hok1.sl, hok1.wl, hok1.wn, hok1.ar⟩
    obtain ⟨w8, σ8, mw8, wc8, e1, e2, k8, l8, b8, c8, h9, k9⟩ := h5.note k5.ok hok5 ⟨true, k, n, []⟩ (ex4 b5) (Im.nil _ _)
    refine Eff_of e1 (Som_of rfl (Som_of (vField0 _ _ _) (Eff_of (store1_of b8 (by simp) c8) ?_)))
    rw [Ret_1 rfl]
    have k89a : Keep (dM d pf ps mw) σ5 σ8 := k8.mono fun x e => .inr (.inr (.inr e))
    have k89b := k9.mono (N := dM d pf ps mw) fun x e => .inl e
    have n5 := k5.next
    have e9 : Dk.cutF D1 k n = { { D1 with files := D1.files.set k (old.take n) } with wait := D1.wait ++ [⟨true, k, n, []⟩] } := by
      unfold Dk.cutF; rw [hfile]
    refine hS _ _ _ _ _ _ hoff (by rw [e9]; exact h9) (((k1'.trans k14).trans (Keep0.to k5)).trans (k89a.trans k89b)) (⟨fun x hx => Or.inl hx, fun x hx hg => ?_⟩ : Gr σ G fun y => G y ∨ y = mw8) (by omega)
    rcases hg with hg | hg
    · exact hg
    · rcases l8 with e | e
      · rw [hg, e]; exact h.g4
      · omega
def Dk.sync (D : Dk) : Dk := { D with safe := D.files, wait := [] }
theorem DkOk.sync (h : DkOk D) : DkOk D.sync := ⟨h.q, h.fl, h.fl, fun c hc => (by cases hc), Nat.zero_le _, h.ar⟩
theorem DkOk.cutF (h : DkOk D) {k n : Nat} (hk : k < 64) (hn : n ≤ (D.file k).length) (hl : (D.file k).length ≤ 2097152 ∧ Bytes (D.file k)) (hw : D.wait.length < 1000000000) : DkOk (D.cutF k n) :=
  ⟨h.q, fun f hf => by
    rcases List.mem_or_eq_of_mem_set hf with hf | hf
    · exact h.fl f hf
    · rw [hf]; exact ⟨by rw [List.length_take]; omega, hl.2.take n⟩, h.sl, fun c hc => by
    rcases List.mem_append.1 hc with hc | hc
    · exact h.wl c hc
    · have : c = ⟨true, k, n, []⟩ := by simpa using hc
      subst this
      exact ⟨hk, by show n + 0 ≤ _; omega, Bytes.nil⟩, by show (D.wait ++ [_]).length ≤ _; rw [List.length_append]; show D.wait.length + 1 ≤ _; omega, h.ar⟩
theorem Dk.file_ok (h : DkOk D) (k : Nat) : (D.file k).length ≤ 2097152 ∧ Bytes (D.file k) := by
  unfold Dk.file
  rw [List.getD_eq_getElem?_getD]
  cases hg : D.files[k]? with
  | none => exact ⟨Nat.zero_le _, Bytes.nil⟩
  | some f => exact h.fl f (List.mem_of_getElem? hg)
theorem DkOk.write (h : DkOk D) {k a : Nat} {p : List Nat} (hk : k < 64) (ha : a ≤ 1048576) (hr : D.room k a p.length) (hs : (D.file k).length ≤ D.held) (hp : Bytes p) (hw : D.wait.length < 1000000000) : DkOk (D.write k a p) := by
  have hl := Dk.file_ok h k
  have hq := h.q
  have hap : a + p.length ≤ 2097152 := by
    unfold Dk.room at hr; omega
  refine ⟨h.q, fun f hf => ?_, h.sl, fun c hc => ?_, by show (D.wait ++ [_]).length ≤ _; rw [List.length_append]; show D.wait.length + 1 ≤ _; omega, h.ar⟩
  · rcases List.mem_or_eq_of_mem_set hf with hf | hf
    · exact h.fl f hf
    · rw [hf]; exact ⟨by rw [writtenF_len]; omega, writtenF_bytes hl.2 hp⟩
  · rcases List.mem_append.1 hc with hc | hc
    · exact h.wl c hc
    · have : c = ⟨false, k, a, p⟩ := by simpa using hc
      subst this
      exact ⟨hk, hap, hp⟩
theorem Sync_c (ht : Tab tab) (ho : Ok σ) (h : DkAt σ G d D pf ps fv sv wv wc mw) (hok : DkOk D)
    (hO : ∀ σ', D.count.off = true → DkAt σ' G d D.count pf ps fv sv wv wc mw → Keep (dM d pf ps mw) σ σ' → Q (.int .i64 11) σ')
    (hS : ∀ σ', D.count.off = false → DkAt σ' G d D.count.sync pf ps fv fv .nsl [] mw → Keep (dM d pf ps mw) σ σ' → Q (.int .i64 0) σ') :
    WF tab 44 [.ptr d 0] σ Q := by
  refine f44_wf ht.t44 ?_
  unfold f44
  refine counted_c ht ho h hok fun σ1 h1 k1 => ?_
  have k1' : Keep (dM d pf ps mw) σ σ1 := k1.mono fun x e => .inl e
  refine Som_of (un_not _) ?_
  rw [Bool.not_not]
  generalize D.count = D1 at *
  cases hoff : D1.off with
  | true =>
    rw [WIf_true, Ret_1 rfl]
    exact hO σ1 hoff h1 k1'
  | false =>
    rw [WIf_false]
    have k2 : Keep0 σ1 (σ1.bumpT 9) := Keep.bump k1.ok 9
    have h2 := h1.keep0 k2
    have hfl := h.fl
    refine Som_of rfl (Som_of (vField0 _ _ _) (Som_of (ld h2.blk rfl) (Som_of rfl (Som_of (vField0 _ _ _) (Som_of (ld h2.blk rfl) ?_)))))
    have hsf : SlAt (σ1.bumpT 9) (.sl pf 0 64 64) 1 64 fv pf.nat := exSl h2.fb h2.fl
    have hrd : slRead 1 64 (.sl pf 0 64 64) (σ1.bumpT 9) = some fv := by
      rw [SlAt.slRead hsf (Nat.le_refl _), show 64 * 1 = fv.length by omega, List.take_length]
    refine Eff_of (copy_of (esz := 1) (k := 64) (n := 64) (cap := 64) (o := 0) hsf.slLen hrd (by omega) (Nat.le_refl _) h2.sb (by rw [h2.sl]; omega)) ?_
    rw [if_neg (by omega)]
    have e1 : sv.take 0 ++ fv ++ sv.drop (0 + 64 * 1) = fv := by
      have := h.sl
      rw [List.take_zero, List.nil_append, List.drop_of_length_le (by omega), List.append_nil]
    rw [e1]
    have k3 := Keep.upd k2.ok h2.sb (c := ⟨1, .ex, fv⟩) rfl
    have k3' : Keep (fun x => x = ps.nat) (σ1.bumpT 9) _ := k3
    have hG : ∀ x, x = ps.nat → G x := fun x e => by rw [e]; exact h.g3
    have ne1 : d.nat ≠ ps.nat := fun e => h.n2 (Pos.nat_inj e)
    have ne2 : pf.nat ≠ ps.nat := fun e => h.n3 (Pos.nat_inj e)
    have h3 : DkAt ((σ1.bumpT 9).upd ps ⟨1, .ex, fv⟩) G d { D1 with safe := D1.files } pf ps fv fv wv wc mw :=
      ⟨k3'.old _ _ h2.blk ne1, k3'.old _ _ h2.fb ne2, blk_upd_same _ _, h2.fl, h2.fl, h2.fd, h2.fd, fun i v bs a b => (h2.ff i v bs a b).keep k3' hG, fun i v bs a b => (h2.ff i v bs a b).keep k3' hG,
        h2.wg.keep h.n6 k3', fun i c hc => let ⟨pv, a, b⟩ := h2.ww i c hc; ⟨pv, a, b.keep k3' hG⟩, h.n1, h.n2, h.n3, h.n4, h.n5, h.n6, h.g1, h.g2, h.g3, h.g4, fun x hx => h2.gl x hx⟩
    generalize (σ1.bumpT 9).upd ps ⟨1, .ex, fv⟩ = σ3 at *
    have hb3 := h3.blk
    refine Som_of rfl (Som_of (vField0 _ _ _) (Eff_of (store1_of hb3 (by simp) rfl) ?_))
    rw [Ret_1 rfl]
    obtain ⟨h4, k4⟩ := h3.setB k3'.ok D1.armed D1.off .nsl [] [] (fun σ' _ => GrAt.nil σ' 4 mw) (fun i c hc => by simp at hc)
    have k34 : Keep (dM d pf ps mw) σ1 σ3 := (Keep0.to k2).trans (k3'.mono fun x e => .inr (.inr (.inl e)))
    refine hS _ hoff h4 ((k1'.trans k34).trans (k4.mono fun x e => .inl e))
def Dk.fresh (q : Nat) : Dk := ⟨q, List.replicate 64 [], List.replicate 64 [], [], 0, false⟩
theorem DkOk.fresh {q : Nat} (h : q ≤ 1048576) : DkOk (Dk.fresh q) :=
  ⟨h, fun f hf => by rw [List.eq_of_mem_replicate hf]; exact ⟨Nat.zero_le _, Bytes.nil⟩, fun f hf => by rw [List.eq_of_mem_replicate hf]; exact ⟨Nat.zero_le _, Bytes.nil⟩, fun c hc => (by cases hc), Nat.zero_le _, Nat.zero_le _⟩
theorem fresh_c (ht : Tab tab) (ho : Ok σ) (hg : ∀ x, G x → x < σ.next.nat) {q : Nat}
    (hQ : ∀ d pf ps σ', DkAt σ' (fun x => G x ∨ x = d.nat ∨ x = pf.nat ∨ x = ps.nat ∨ x = σ.next.nat) d (Dk.fresh q) pf ps (List.replicate 64 .nsl) (List.replicate 64 .nsl) .nsl [] σ.next.nat → Keep0 σ σ' →
      σ.next.nat ≤ d.nat → σ.next.nat ≤ pf.nat → σ.next.nat ≤ ps.nat → Q (.ptr d 0) σ') : WF tab 35 [.int .i64 (q : Int)] σ Q := by
  refine f35_wf ht.t35 ?_
  unfold f35
  have k0 : Keep0 σ (σ.bumpT 6) := Keep.bump ho 6
  have hn0 := next_bump (σ := σ) 6
  have p1 : (Pos.plusT 1 σ.next).nat = σ.next.nat + 1 := plusT_nat 1 _
  have p2 : (Pos.plusT 2 σ.next).nat = σ.next.nat + 2 := plusT_nat 2 _
  have p4 : (Pos.plusT 4 σ.next).nat = σ.next.nat + 4 := plusT_nat 4 _
  have u : ∀ n, Unused (σ.bumpT 6) (Pos.plusT n σ.next) := fun n => ho.free _ (by rw [plusT_nat]; omega)
  have hmk : aMakeV 1 24 [AVal.nsl] (.int .i64 64) (.int .i64 64) = _ := make_of (l := 64) (c := 64) (esz := 1) (bytes := 24) (z := [AVal.nsl]) (Nat.le_refl 64) (by omega) (by omega)
  refine Alb_of hmk ?_
  rw [repN_one]
  obtain ⟨k1, m1, w1⟩ := Keep.layD k0 ⟨1, .ex, List.replicate 64 .nsl⟩ (u 1) (by omega) (by omega)
  have b1 : ((σ.bumpT 6).lay (Pos.plusT 1 σ.next) (Blk.named ⟨1, .ex, List.replicate 64 .nsl⟩ (Pos.plusT 1 σ.next))).blk (Pos.plusT 1 σ.next) = some ⟨1, .ex, List.replicate 64 .nsl⟩ := by rw [blk_lay, if_pos rfl]; rfl
  have x1 := next_lay (σ := σ.bumpT 6) (Pos.plusT 1 σ.next) (Blk.named ⟨1, .ex, List.replicate 64 .nsl⟩ (Pos.plusT 1 σ.next))
  have u12 := w1 (Pos.plusT 2 σ.next) (fun e => by have := congrArg Pos.nat e; omega) (u 2)
  have u14 := w1 (Pos.plusT 4 σ.next) (fun e => by have := congrArg Pos.nat e; omega) (u 4)
  generalize (σ.bumpT 6).lay (Pos.plusT 1 σ.next) (Blk.named ⟨1, .ex, List.replicate 64 .nsl⟩ (Pos.plusT 1 σ.next)) = σ1 at *
  have x1' : σ1.next.nat = σ.next.nat + 6 := by rw [x1]; exact hn0
  refine Alb_of hmk ?_
  rw [repN_one]
  obtain ⟨k2, m2, w2⟩ := Keep.layD k1 ⟨1, .ex, List.replicate 64 .nsl⟩ u12 (by omega) (by omega)
  have b2 : (σ1.lay (Pos.plusT 2 σ.next) (Blk.named ⟨1, .ex, List.replicate 64 .nsl⟩ (Pos.plusT 2 σ.next))).blk (Pos.plusT 2 σ.next) = some ⟨1, .ex, List.replicate 64 .nsl⟩ := by rw [blk_lay, if_pos rfl]; rfl
  have b21 := m2 _ _ b1
  have x2 := next_lay (σ := σ1) (Pos.plusT 2 σ.next) (Blk.named ⟨1, .ex, List.replicate 64 .nsl⟩ (Pos.plusT 2 σ.next))
  have u24 := w2 (Pos.plusT 4 σ.next) (fun e => by have := congrArg Pos.nat e; omega) u14
  generalize σ1.lay (Pos.plusT 2 σ.next) (Blk.named ⟨1, .ex, List.replicate 64 .nsl⟩ (Pos.plusT 2 σ.next)) = σ2 at *
  have x2' : σ2.next.nat = σ.next.nat + 6 := by rw [x2]; exact x1'
  have hbd : vBuild [AVal.int .i64 0, .nsl, .nsl, .nsl, .int .i64 0, .bool false] [(0, 1, .int .i64 (q : Int)), (1, 1, .sl (Pos.plusT 1 σ.next) 0 64 64), (2, 1, .sl (Pos.plusT 2 σ.next) 0 64 64)] =
    some (.agg [.int .i64 (q : Int), .sl (Pos.plusT 1 σ.next) 0 64 64, .sl (Pos.plusT 2 σ.next) 0 64 64, .nsl, .int .i64 0, .bool false]) := rfl
  refine Som_of hbd (Alb_of rfl ?_)
  obtain ⟨k3, m3, _⟩ := Keep.layD k2 ⟨0, .ex, [.int .i64 (q : Int), .sl (Pos.plusT 1 σ.next) 0 64 64, .sl (Pos.plusT 2 σ.next) 0 64 64, .nsl, .int .i64 0, .bool false]⟩ u24 (by omega) (by omega)
  have b3 : (σ2.lay (Pos.plusT 4 σ.next) (Blk.named ⟨0, .ex, [.int .i64 (q : Int), .sl (Pos.plusT 1 σ.next) 0 64 64, .sl (Pos.plusT 2 σ.next) 0 64 64, .nsl, .int .i64 0, .bool false]⟩ (Pos.plusT 4 σ.next))).blk (Pos.plusT 4 σ.next) =
    some ⟨0, .ex, [.int .i64 (q : Int), .sl (Pos.plusT 1 σ.next) 0 64 64, .sl (Pos.plusT 2 σ.next) 0 64 64, .nsl, .int .i64 0, .bool false]⟩ := by rw [blk_lay, if_pos rfl]; rfl
  have b31 := m3 _ _ b21
  have b32 := m3 _ _ b2
  have x3 := next_lay (σ := σ2) (Pos.plusT 4 σ.next) (Blk.named ⟨0, .ex, [.int .i64 (q : Int), .sl (Pos.plusT 1 σ.next) 0 64 64, .sl (Pos.plusT 2 σ.next) 0 64 64, .nsl, .int .i64 0, .bool false]⟩ (Pos.plusT 4 σ.next))
  rw [Ret_1 rfl]
  have hnil : ∀ {σ' : S} {G' : Nat → Prop} (i : Nat) (v : AVal) (bs : List Nat), (List.replicate 64 AVal.nsl)[i]? = some v → (List.replicate 64 ([] : List Nat))[i]? = some bs → Im σ' G' v bs := fun i v bs a b => by
    rw [List.eq_of_mem_replicate (List.mem_of_getElem? a), List.eq_of_mem_replicate (List.mem_of_getElem? b)]; exact Im.nil _ _
  refine hQ (Pos.plusT 4 σ.next) (Pos.plusT 1 σ.next) (Pos.plusT 2 σ.next) _ ⟨b3, b31, b32, List.length_replicate, List.length_replicate, List.length_replicate, List.length_replicate, hnil, hnil, GrAt.nil _ 4 _, fun i c hc => by simp [Dk.fresh] at hc,
    fun e => by have := congrArg Pos.nat e; omega, fun e => by have := congrArg Pos.nat e; omega, fun e => by have := congrArg Pos.nat e; omega, by omega, by omega, by omega, .inr (.inl rfl), .inr (.inr (.inl rfl)), .inr (.inr (.inr (.inl rfl))), .inr (.inr (.inr (.inr rfl))), ?_⟩ k3 (by omega) (by omega) (by omega)
  intro x hx
  rw [x3, x2']
  rcases hx with hx | hx | hx | hx | hx
  · have := hg x hx; omega
  all_goals omega
end
end Go.Am
namespace Go.Am
section
variable {tab : Nat → Option PFn} {σ : S} {Q : AVal → S → Prop}
def RdSt (σ : S) (p : Pos) (bs : List Nat) (bv : AVal) (mb : Nat) (s : Option Nat) : Prop := match s with
  | some a => a ≤ bs.length ∧ RdAt σ p bs 0 0 a bv mb
  | none => ∃ fa fw a, fw ≠ 0 ∧ RdAt σ p bs fa fw a bv mb
theorem RdSt.keep {M : Nat → Prop} {σ σ' : S} {p : Pos} {bs : List Nat} {bv : AVal} {mb : Nat} {s : Option Nat} (h : RdSt σ p bs bv mb s) (k : Keep M σ σ') (hp : ¬ M p.nat) (hm : ¬ M mb) : RdSt σ' p bs bv mb s := by
  cases s with
  | some a => exact ⟨h.1, h.2.keep k hp hm⟩
  | none => obtain ⟨fa, fw, a, h1, h2⟩ := h; exact ⟨fa, fw, a, h1, h2.keep k hp hm⟩
noncomputable def stepV (bs : List Nat) (s : Option Nat) : Int := match s with
  | some a => match decG 0 0 (bs.drop a) with
    | some (v, _) => zagF v
    | none => 0
  | none => 0
def stepS (bs : List Nat) (s : Option Nat) : Option Nat := match s with
  | some a => match decG 0 0 (bs.drop a) with
    | some (_, n) => some (a + n)
    | none => none
  | none => none
theorem Num_any (ht : Tab tab) {p : Pos} {bs : List Nat} {bv : AVal} {mb : Nat} {s : Option Nat} (ho : Ok σ) (hl : bs.length ≤ 1000000000) (hb : Bytes bs) (hr : RdSt σ p bs bv mb s)
    (hQ : ∀ σ', RdSt σ' p bs bv mb (stepS bs s) → Keep (fun x => x = p.nat) σ σ' → Q (.int .i64 (stepV bs s)) σ') : WF tab 85 [.ptr p 0] σ Q := by
  cases s with
  | some a =>
    refine Num_ok ht ho hl hb hr.1 hr.2 (fun e σ' h1 h2 h3 h4 => ?_) (fun v n σ' h1 h2 h3 h4 => ?_)
    · have e1 : stepS bs (some a) = none := by unfold stepS; simp only [h1]
      have e2 : stepV bs (some a) = 0 := by unfold stepV; simp only [h1]
      rw [e1, e2] at hQ
      exact hQ σ' ⟨_, _, _, h2, h3⟩ h4
    · have e1 : stepS bs (some a) = some (a + n) := by unfold stepS; simp only [h1]
      have e2 : stepV bs (some a) = zagF v := by unfold stepV; simp only [h1]
      rw [e1, e2] at hQ
      exact hQ σ' ⟨h2, h3⟩ h4
  | none =>
    obtain ⟨fa, fw, a, h1, h2⟩ := hr
    exact Num_bad ht ho h1 h2 fun σ' h3 h4 => hQ σ' ⟨fa, fw, a, h1, h3⟩ h4
structure Part where
  kind : Int
  age : Int
  i : Int
  n : Int
  rec_ : List Nat
noncomputable def partOf (p : List Nat) (s : Option Nat) : Option Part := match s with
  | some a => some ⟨stepV p (some 0), stepV p (stepS p (some 0)), stepV p (stepS p (stepS p (some 0))), stepV p (stepS p (stepS p (stepS p (some 0)))), p.drop a⟩
  | none => none
noncomputable def partF (p : List Nat) : Option Part := partOf p (stepS p (stepS p (stepS p (stepS p (some 0)))))
noncomputable def nextW (b : List Nat) (a : Nat) : Option (Part × Nat) := match nextF b a with
  | some (p, to) => match partF p with
    | some x => some (x, to)
    | none => none
  | none => none
def Part.val (x : Part) : AVal := .agg [.int .i64 x.kind, .int .i64 x.age, .int .i64 x.i, .int .i64 x.n, .str x.rec_]
theorem stepV_range (bs : List Nat) (s : Option Nat) : -9223372036854775808 ≤ stepV bs s ∧ stepV bs s ≤ 9223372036854775807 := by
  unfold stepV
  split
  · split
    · exact i64_range _
    · omega
  · omega
theorem nextF_len {b : List Nat} {a : Nat} {p : List Nat} {to : Nat} (h : nextF b a = some (p, to)) : to ≤ b.length ∧ p.length ≤ 16384 ∧ a < to := by
  unfold nextF at h
  split at h
  · cases h
  split at h
  · cases h
  split at h
  · cases h
  split at h
  · cases h
  split at h
  · cases h
  · cases h
    rename_i h1 h2 h3 h4 h5
    refine ⟨by omega, ?_, by omega⟩
    rw [List.length_take]; omega
theorem nextF_bytes {b : List Nat} {a : Nat} {p : List Nat} {to : Nat} (h : nextF b a = some (p, to)) (hb : Bytes b) : Bytes p := by
  unfold nextF at h
  split at h
  · cases h
  split at h
  · cases h
  split at h
  · cases h
  split at h
  · cases h
  split at h
  · cases h
  · cases h
    exact (((hb.drop _).drop _).take _)
theorem u8s_bytesV {bs : List Nat} (hb : Bytes bs) : u8s (bytesV bs) = some bs := by
  induction bs with
  | nil => rfl
  | cons c bs ih =>
    show test (Nat.ble c 255) (andThen (u8s (bytesV bs)) fun s => some (c :: s)) = _
    rw [Nat.ble_eq_true_of_le (by have := hb c List.mem_cons_self; omega), test_tt, ih fun d hd => hb d (List.mem_cons_of_mem _ hd)]; rfl
theorem BySl.str {v : AVal} {bs : List Nat} {m : Nat} (h : BySl σ v bs m) (hb : Bytes bs) : vBytesStr v σ = some (.str bs) := by
  have hrd : ∀ (b : Pos) (o : Nat), rdN σ b o (bs.length * 1) = some (bytesV bs) → vBytes σ b o bs.length = some (.str bs) := fun b o hr => by
    unfold vBytes
    cases hn : bs.length with
    | zero =>
      have : bs = [] := List.eq_nil_of_length_eq_zero hn
      subst this; rfl
    | succ n =>
      rw [hn, Nat.mul_one] at hr
      have hr : σ.read b o (n + 1) = some (bytesV bs) := hr
      simp only
      rw [show n.succ = n + 1 from rfl, hr, andThen_s, u8s_bytesV hb]; rfl
  have hsr := h.read
  obtain ⟨h0, h'⟩ := h
  cases v with
  | nsl =>
    have : bs = [] := List.eq_nil_of_length_eq_zero h'
    subst this; rfl
  | sl b o len cap =>
    obtain ⟨rfl, _, _⟩ := h'
    exact hrd b o hsr
  | slu b o len z =>
    obtain ⟨rfl, rfl, _⟩ := h'
    exact hrd b o hsr
  | _ => exact h'.elim
theorem nextw_c (ht : Tab tab) {v : AVal} {b : List Nat} {m a : Nat} (ho : Ok σ) (hv : BySl σ v b m) (hb : Bytes b) (hl : b.length ≤ 1000000000) (hla : a ≤ 1000000000)
    (hN : ∀ σ', nextW b a = none → Keep0 σ σ' → σ.next.nat < σ'.next.nat → Q (.tup [.agg [.int .i64 0, .int .i64 0, .int .i64 0, .int .i64 0, .str []], .int .i64 0, .bool false]) σ')
    (hS : ∀ x to σ', nextW b a = some (x, to) → Keep0 σ σ' → σ.next.nat < σ'.next.nat → Q (.tup [x.val, .int .i64 (to : Int), .bool true]) σ') : WF tab 73 [v, .int .i64 (a : Int)] σ Q := by
  refine f73_wf ht.t73 ?_
  unfold f73
  refine Ala_of rfl ?_
  have k1 : Keep0 σ (σ.new ⟨0, .ex, [.int .i64 0, .int .i64 0, .int .i64 0, .int .i64 0, .str []]⟩) := Keep.new ho _
  have b1 : (σ.new ⟨0, .ex, [.int .i64 0, .int .i64 0, .int .i64 0, .int .i64 0, .str []]⟩).blk σ.next = some ⟨0, .ex, [.int .i64 0, .int .i64 0, .int .i64 0, .int .i64 0, .str []]⟩ := by rw [blk_new, if_pos rfl]; rfl
  have n1 := new_next (σ := σ) ⟨0, .ex, [.int .i64 0, .int .i64 0, .int .i64 0, .int .i64 0, .str []]⟩
  generalize σ.new ⟨0, .ex, [.int .i64 0, .int .i64 0, .int .i64 0, .int .i64 0, .str []]⟩ = σ1 at *
  have hv1 := hv.keep (fun _ h => h) k1
  have hz : vBuild [AVal.int .i64 0, .int .i64 0, .int .i64 0, .int .i64 0, .str []] [] = some (.agg [.int .i64 0, .int .i64 0, .int .i64 0, .int .i64 0, .str []]) := rfl
  -- a refusal
  have bad : ∀ σ2, nextW b a = none → Keep0 σ σ2 → σ.next.nat < σ2.next.nat → σ2.blk σ.next = some ⟨0, .ex, [.int .i64 0, .int .i64 0, .int .i64 0, .int .i64 0, .str []]⟩ →
      Som (vBuild [(.int .i64 0), (.int .i64 0), (.int .i64 0), (.int .i64 0), (.str [])] []) fun t21 => Eff (storeW 5 (.ptr σ.next 0) t21 σ2) fun _ σ3 => Ret [vLoadN 5 (.ptr σ.next 0) σ3, some (.int .i64 0), some (.bool false)] σ3 Q := by
    intro σ2 hn k2 hlt b2
    refine Som_of hz (Eff_of (storeN_of b2 rfl (by omega) (by simp)) ?_)
    rw [ldN (n := 5) (blk_upd_same _ _) (by simp) rfl, Ret_3 rfl rfl rfl]
    have k3 : Keep (fun x => x = σ.next.nat) σ2 _ := Keep.upd k2.ok b2 (c := ⟨0, .ex, [.int .i64 0, .int .i64 0, .int .i64 0, .int .i64 0, .str []]⟩) rfl
    exact hN _ hn (k2.then ho k3 fun x hx e => by omega) (by rw [next_upd]; exact hlt)
  refine Next_c ht k1.ok hv1 hb hl hla (fun e σ2 hnx he k2 => ?_) (fun p to w σ2 mp hnx hw k2 => ?_)
  · refine Som_of rfl (Som_of rfl (Som_of rfl (Som_of (bin_neq _ _ _ _) ?_)))
    refine WIf_t he ?_
    exact bad σ2 (by unfold nextW; rw [hnx]) (k1.trans k2) (by have := k2.next; omega) (k2.old _ _ b1 (fun h => h))
  · obtain ⟨p1, p2, p3⟩ := nextF_len hnx
    have hpb := nextF_bytes hnx hb
    refine Som_of rfl (Som_of rfl (Som_of rfl (Som_of (bin_neq _ _ _ _) ?_)))
    refine WIf_f (by omega) ?_
    have k12 := k1.trans k2
    refine read_c ht k2.ok hw (by omega) fun r bv mb σ3 r3 k3 l3 l3' l3'' l3m => ?_
    have k13 := k12.trans k3
    have b3 := k3.old _ _ (k2.old _ _ b1 (fun h => h)) (fun h => h)
    have n2 := k2.next; have n3 := k3.next
    refine Ala_of rfl ?_
    have k4 : Keep0 σ3 (σ3.new ⟨0, .ex, [.int .i64 0, .int .i64 0, .int .i64 0, .int .i64 0, .str []]⟩) := Keep.new k3.ok _
    have b4 : (σ3.new ⟨0, .ex, [.int .i64 0, .int .i64 0, .int .i64 0, .int .i64 0, .str []]⟩).blk σ3.next = some ⟨0, .ex, [.int .i64 0, .int .i64 0, .int .i64 0, .int .i64 0, .str []]⟩ := by rw [blk_new, if_pos rfl]; rfl
    have n4 := new_next (σ := σ3) ⟨0, .ex, [.int .i64 0, .int .i64 0, .int .i64 0, .int .i64 0, .str []]⟩
    generalize σ3.new ⟨0, .ex, [.int .i64 0, .int .i64 0, .int .i64 0, .int .i64 0, .str []]⟩ = σ4 at *
    have s4 : RdSt σ4 r p bv mb (some 0) := ⟨Nat.zero_le _, r3.keep k4 (fun h => h) (fun h => h)⟩
    have or : r.nat ≠ σ3.next.nat := by omega
    have omb : mb ≠ σ3.next.nat := by omega
    have hrm := r3.ne
    generalize hN : (fun x => x = r.nat ∨ x = σ3.next.nat) = N
    have step : ∀ (σ' : S) (s : Option Nat) (cells : List AVal) (k : Nat) (K : S → Prop), k < cells.length → RdSt σ' r p bv mb s → σ'.blk σ3.next = some ⟨0, .ex, cells⟩ → Keep N σ4 σ' →
        (∀ σ2, RdSt σ2 r p bv mb (stepS p s) → σ2.blk σ3.next = some ⟨0, .ex, cells.set k (.int .i64 (stepV p s))⟩ → Keep N σ4 σ2 → K σ2) →
        WF tab 85 [.ptr r 0] σ' fun v σa => Som (vFieldAddr k (.ptr σ3.next 0)) fun ad => Eff (storeW 1 ad v σa) fun _ σb => K σb := by
      intro σ' s cells k K hk hr hb' hkp hK
      refine Num_any ht hkp.ok (by omega) hpb hr fun σa ra ka => ?_
      have ba := ka.old _ _ hb' (fun e => or e.symm)
      refine Som_of (vField0 _ _ _) (Eff_of (store1_of ba (by omega) rfl) ?_)
      rw [Nat.zero_add]
      have kb : Keep (fun x => x = σ3.next.nat) σa _ := Keep.upd ka.ok ba (c := ⟨0, .ex, cells.set k (.int .i64 (stepV p s))⟩) rfl
      refine hK _ (ra.keep kb (fun e => or e) (fun e => omb e)) (blk_upd_same _ _) ?_
      have ka' : Keep N σ' σa := ka.mono fun x e => by rw [← hN]; exact .inl e
      have kb' : Keep N σa _ := kb.mono fun x e => by rw [← hN]; exact .inr e
      exact (hkp.trans ka').trans kb'
    refine step σ4 (some 0) _ 0 _ (by simp) s4 b4 (Keep.refl k4.ok) fun σ5 s5 b5 k5 => ?_
    refine step σ5 _ _ 1 _ (by simp) s5 b5 k5 fun σ6 s6 b6 k6 => ?_
    refine step σ6 _ _ 2 _ (by simp) s6 b6 k6 fun σ7 s7 b7 k7 => ?_
    refine step σ7 _ _ 3 _ (by simp) s7 b7 k7 fun σ8 s8 b8 k8 => ?_
    have hNlt : ∀ x, x < σ.next.nat → N x → False := fun x hx e => by
      rw [← hN] at e
      have n1' := k12.next
      rcases e with e | e <;> omega
    have k08 : Keep0 σ σ8 := (k13.trans k4).then ho k8 hNlt
    have bres : ∀ {σ' : S}, Keep N σ4 σ' → σ'.blk σ.next = some ⟨0, .ex, [.int .i64 0, .int .i64 0, .int .i64 0, .int .i64 0, .str []]⟩ := fun hk => by
      refine hk.old _ _ (k4.old _ _ b3 (fun h => h)) fun e => ?_
      rw [← hN] at e
      have e : σ.next.nat = r.nat ∨ σ.next.nat = σ3.next.nat := e
      rcases e with e | e <;> omega
    generalize hs : stepS p (stepS p (stepS p (stepS p (some 0)))) = s at *
    have hpart : partF p = partOf p s := by unfold partF; rw [hs]
    cases s with
    | none =>
      obtain ⟨fa, fw, a', hw0, hra⟩ := s8
      refine Som_of rfl (Som_of (vField0 _ _ _) (Som_of (ldN (n := 2) hra.blk (by simp) rfl) ?_))
      refine good_c ht k8.ok fun σ9 k9 => ?_
      rw [decide_eq_false hw0]
      refine Som_of (un_not _) ?_
      rw [show (!false) = true from rfl, WIf_true]
      have k89 : Keep N σ4 σ9 := k8.trans (Keep0.to k9)
      exact bad σ9 (by unfold nextW; simp only [hnx, hpart, partOf]) (k08.trans k9) (by have := k89.next; omega) (bres k89)
    | some a8 =>
      obtain ⟨ha8, hra⟩ := s8
      refine Som_of rfl (Som_of (vField0 _ _ _) (Som_of (ldN (n := 2) hra.blk (by simp) rfl) ?_))
      refine good_c ht k8.ok fun σ9 k9 => ?_
      rw [decide_eq_true rfl]
      refine Som_of (un_not _) ?_
      rw [show (!true) = false from rfl, WIf_false]
      have k89 : Keep N σ4 σ9 := k8.trans (Keep0.to k9)
      have hra9 := hra.keep k9 (fun h => h) (fun h => h)
      refine rdnext_c ht hra9 ?_
      have k24 : Keep0 σ2 σ9 := by
        have h0 : Keep0 σ2 σ4 := k3.trans k4
        refine h0.then k2.ok k89 fun x hx e => ?_
        rw [← hN] at e
        have e : x = r.nat ∨ x = σ3.next.nat := e
        rcases e with e | e <;> omega
      have hw9 := hw.keep (fun _ h => h) k24
      obtain ⟨y, y1, y2⟩ := BySl.cutL hw9 ha8
      refine Som_of y1 (Som_of (y2.str (hpb.drop a8)) (Som_of (vField0 _ _ _) ?_))
      have b9 := k9.old _ _ b8 (fun h => h)
      refine Eff_of (store1_of b9 (by simp) rfl) ?_
      have k10 : Keep (fun x => x = σ3.next.nat) σ9 _ := Keep.upd k9.ok b9 (c := ⟨0, .ex, [.int .i64 (stepV p (some 0)), .int .i64 (stepV p (stepS p (some 0))), .int .i64 (stepV p (stepS p (stepS p (some 0)))), .int .i64 (stepV p (stepS p (stepS p (stepS p (some 0))))), .str (p.drop a8)]⟩) rfl
      have k10' : Keep N σ9 _ := k10.mono fun x e => by rw [← hN]; exact .inr e
      have k410 := k89.trans k10'
      have b10 := bres k410
      refine Som_of (ldN (n := 5) (blk_upd_same _ _) (by simp) rfl) (Eff_of (storeN_of b10 rfl (by omega) (by simp)) ?_)
      rw [ldN (n := 5) (blk_upd_same _ _) (by simp) rfl, Ret_3 rfl rfl rfl]
      have k11 : Keep (fun x => x = σ.next.nat) _ _ := Keep.upd k410.ok b10 (c := ⟨0, .ex, [.int .i64 (stepV p (some 0)), .int .i64 (stepV p (stepS p (some 0))), .int .i64 (stepV p (stepS p (stepS p (some 0)))), .int .i64 (stepV p (stepS p (stepS p (stepS p (some 0))))), .str (p.drop a8)]⟩) rfl
      have k010 : Keep0 σ _ := (k13.trans k4).then ho k410 hNlt
      exact hS ⟨stepV p (some 0), stepV p (stepS p (some 0)), stepV p (stepS p (stepS p (some 0))), stepV p (stepS p (stepS p (stepS p (some 0)))), p.drop a8⟩ to _ (by unfold nextW; simp only [hnx, hpart, partOf]) (k010.then ho k11 fun x hx e => by omega) (by rw [next_upd, next_upd]; have := k89.next; omega)
end
end Go.Am
namespace Go.Am
structure Lg where
  file : Nat
  age : Nat
  first : Nat
  recs : List (List Nat)
  size : Nat
  live : Nat
section
variable {tab : Nat → Option PFn} {σ : S} {Q : AVal → S → Prop} {G : Nat → Prop}
abbrev strs (l : List (List Nat)) : List AVal := l.map .str
structure LgAt (σ : S) (G : Nat → Prop) (l d : Pos) (L : Lg) (rv : AVal) (mr : Nat) : Prop where
  blk : σ.blk l = some ⟨0, .ex, [.ptr d 0, .int .i64 (L.file : Int), .int .i64 (L.age : Int), .int .i64 (L.first : Int), rv, .int .i64 (L.size : Int), .int .i64 (L.live : Int)]⟩
  rg : GrAt σ rv 1 L.recs.length (strs L.recs) mr
  n1 : mr ≠ l.nat
  g1 : G l.nat
  g2 : G mr
  gl : ∀ x, G x → x < σ.next.nat
def lM (l : Pos) (mr : Nat) : Nat → Prop := fun x => x = l.nat ∨ x = mr
structure LgOk (L : Lg) : Prop where
  age : L.age ≤ 1152921504606846976
  first : L.first ≤ 2199023255552
  recs : ∀ r ∈ L.recs, Bytes r ∧ r.length ≤ 20000
  many : L.recs.length ≤ 1000000000
  size : L.size ≤ 1000000000
  live : L.live ≤ 100000000000000
def Lg.next (L : Lg) : Nat := L.first + L.recs.length
variable {l d : Pos} {L : Lg} {rv : AVal} {mr : Nat}
theorem LgAt.keep {N : Nat → Prop} {σ σ' : S} (h : LgAt σ G l d L rv mr) (k : Keep N σ σ') (hx : ∀ x, lM l mr x → ¬ N x) : LgAt σ' G l d L rv mr :=
  ⟨k.old _ _ h.blk (hx _ (.inl rfl)), h.rg.keep (hx _ (.inr rfl)) k, h.n1, h.g1, h.g2, fun x hg => Nat.lt_of_lt_of_le (h.gl x hg) k.next⟩
theorem LgAt.keep0 {σ σ' : S} (h : LgAt σ G l d L rv mr) (k : Keep0 σ σ') : LgAt σ' G l d L rv mr := h.keep k fun _ _ h => h.elim
theorem LgAt.set (h : LgAt σ G l d L rv mr) (ho : Ok σ) (L' : Lg) (hr : L'.recs = L.recs) {cs : List AVal}
    (hc : cs = [.ptr d 0, .int .i64 (L'.file : Int), .int .i64 (L'.age : Int), .int .i64 (L'.first : Int), rv, .int .i64 (L'.size : Int), .int .i64 (L'.live : Int)]) :
    LgAt (σ.upd l ⟨0, .ex, cs⟩) G l d L' rv mr ∧ Keep (fun x => x = l.nat) σ (σ.upd l ⟨0, .ex, cs⟩) := by
  have k : Keep (fun x => x = l.nat) σ (σ.upd l ⟨0, .ex, cs⟩) := Keep.upd ho h.blk (c := ⟨0, .ex, cs⟩) rfl
  refine ⟨⟨by rw [blk_upd_same, hc], by rw [hr]; exact h.rg.keep h.n1 k, h.n1, h.g1, h.g2, fun x hx => h.gl x hx⟩, k⟩
theorem first_c (ht : Tab tab) (h : LgAt σ G l d L rv mr) (hQ : Q (.int .i64 (L.first : Int)) σ) : WF tab 14 [.ptr l 0] σ Q := by
  refine f14_wf ht.t14 ?_
  unfold f14
  refine Som_of rfl (Som_of (vField0 _ _ _) (Som_of (ld h.blk rfl) ?_))
  rw [Ret_1 rfl]; exact hQ
theorem last_c (ht : Tab tab) (ho : Ok σ) (h : LgAt σ G l d L rv mr) (hok : LgOk L) (hQ : ∀ σ', Keep0 σ σ' → Q (.int .i64 ((L.next : Int) - 1)) σ') : WF tab 15 [.ptr l 0] σ Q := by
  refine f15_wf ht.t15 ?_
  unfold f15
  have k1 : Keep0 σ (σ.bumpT 12) := Keep.bump ho 12
  have h1 := h.keep0 k1
  have hf := hok.first; have hm := hok.many
  refine Som_of rfl (Som_of (vField0 _ _ _) (Som_of (ld h1.blk rfl) (Som_of rfl (Som_of (vField0 _ _ _) (Som_of (ld h1.blk rfl) (Som_of h1.rg.sl.len (Som_of (bin_add _ _ _ _) (Som_of (bin_sub _ _ _ _) ?_))))))))
  rw [wrap_i64_in (n := (L.first : Int) + (L.recs.length : Int)) (by omega) (by omega), wrap_i64_in (n := (L.first : Int) + (L.recs.length : Int) - 1) (by omega) (by omega), Ret_1 rfl]
  have e : (L.first : Int) + (L.recs.length : Int) - 1 = (L.next : Int) - 1 := by unfold Lg.next; omega
  rw [e]
  exact hQ _ k1
def Lg.takes (L : Lg) (i : Int) (n : Nat) : Prop := (L.recs ≠ [] → i = L.next) ∧ (L.recs = [] → 1 ≤ i ∧ i ≤ 1099511627777) ∧ i + n - 1 ≤ 1099511627776
noncomputable instance (L : Lg) (i : Int) (n : Nat) : Decidable (L.takes i n) := Classical.propDecidable _
theorem takes_c (ht : Tab tab) (ho : Ok σ) (h : LgAt σ G l d L rv mr) (hok : LgOk L) {i : Int} {n : Nat} (hn : n ≤ 1000000000000000) (hi : -9223372036854775808 ≤ i ∧ i ≤ 9223372036854775807)
    (hQ : ∀ σ', Keep0 σ σ' → Q (.bool (decide (L.takes i n))) σ') : WF tab 48 [.ptr l 0, .int .i64 i, .int .i64 (n : Int)] σ Q := by
  refine f48_wf ht.t48 ?_
  unfold f48
  have hf := hok.first; have hm := hok.many
  have no : ∀ {σ'}, Keep0 σ σ' → ¬ L.takes i n → Ret [some (.bool false)] σ' Q := fun k hn => by
    rw [Ret_1 rfl]
    have := hQ _ k
    rw [decide_eq_false hn] at this; exact this
  have fin : ∀ {σ'}, Keep0 σ σ' → -1 ≤ i → i ≤ 9000000000000 → (L.recs ≠ [] → i = L.next) → (L.recs = [] → 1 ≤ i ∧ i ≤ 1099511627777) →
      Som (binA .add .num (.int .i64 i) (.int .i64 (n : Int))) fun t38 => Som (binA .sub .num t38 (.int .i64 1)) fun t39 => Som (binA .leq .num t39 (.int .i64 1099511627776)) fun t40 => Ret [some t40] σ' Q := fun k h1 h2 h3 h4 => by
    refine Som_of (bin_add _ _ _ _) (Som_of (bin_sub _ _ _ _) (Som_of (bin_leq _ _ _ _) ?_))
    rw [wrap_i64_in (n := i + (n : Int)) (by omega) (by omega), wrap_i64_in (n := i + (n : Int) - 1) (by omega) (by omega), Ret_1 rfl]
    have e : decide (i + (n : Int) - 1 ≤ 1099511627776) = decide (L.takes i n) := by
      by_cases hh : i + (n : Int) - 1 ≤ 1099511627776
      · rw [decide_eq_true hh, decide_eq_true (show L.takes i n from ⟨h3, h4, hh⟩)]
      · rw [decide_eq_false hh, decide_eq_false (fun hx : L.takes i n => hh hx.2.2)]
    rw [e]; exact hQ _ k
  refine Som_of rfl (Som_of (vField0 _ _ _) (Som_of (ld h.blk rfl) (Som_of h.rg.sl.len (Som_of (bin_gtr _ _ _ _) ?_))))
  by_cases hz : L.recs = []
  · have hl0 : L.recs.length = 0 := by rw [hz]; rfl
    rw [decide_eq_false (show ¬ (0 : Int) < (L.recs.length : Int) by omega)]
    refine Som_of rfl (Som_of rfl (GE_n rfl (Som_of rfl (Som_of rfl (Som_of rfl ?_)))))
    refine Som_of rfl (Sq_of rfl rfl (Sq_of rfl (vField0 _ _ _) (Sq_of rfl (ld h.blk rfl) (Sq_of rfl h.rg.sl.len (Sq_of rfl (bin_eql _ _ _ _) ?_)))))
    rw [decide_eq_true (show (L.recs.length : Int) = 0 by omega)]
    refine Som_of rfl (Som_of rfl (Sq_of rfl (bin_lss _ _ _ _) (Som_of rfl ?_)))
    by_cases h1 : i < 1
    · rw [decide_eq_true h1]
      refine Som_of rfl (Som_of rfl (Som_of rfl (Som_of rfl (Som_of rfl ?_))))
      rw [WIf_true]
      exact no (Keep0.nil ho) fun hx => by have := (hx.2.1 hz).1; omega
    · rw [decide_eq_false h1]
      refine Som_of rfl (Sq_of rfl (bin_gtr _ _ _ _) (Som_of rfl (Som_of rfl (Som_of rfl ?_))))
      refine WIf_dec (fun hb => ?_) (fun hb => ?_)
      · exact no (Keep0.nil ho) fun hx => by have := (hx.2.1 hz).2; omega
      · exact fin (Keep0.nil ho) (by omega) (by omega) (fun hh => absurd hz hh) (fun _ => ⟨by omega, by omega⟩)
  · have hl0 : L.recs.length ≠ 0 := fun e => hz (List.eq_nil_of_length_eq_zero e)
    rw [decide_eq_true (show (0 : Int) < (L.recs.length : Int) by omega)]
    refine Som_of rfl (Som_of rfl (GE_t rfl ?_))
    refine last_c ht ho h hok fun σ1 k1 => ?_
    have h1 := h.keep0 k1
    refine Sq_of rfl (bin_add _ _ _ _) (Sq_of rfl (bin_neq _ _ _ _) (Som_of rfl ?_))
    have hnx : (L.next : Int) = (L.first : Int) + (L.recs.length : Int) := by unfold Lg.next; omega
    rw [wrap_i64_in (n := (L.next : Int) - 1 + 1) (by omega) (by omega)]
    by_cases he : i = L.next
    · rw [decide_eq_false (show ¬ i ≠ (L.next : Int) - 1 + 1 by omega)]
      refine Som_of rfl (Sq_of rfl rfl (Sq_of rfl (vField0 _ _ _) (Sq_of rfl (ld h1.blk rfl) (Sq_of rfl h1.rg.sl.len (Sq_of rfl (bin_eql _ _ _ _) ?_)))))
      rw [decide_eq_false (show ¬ (L.recs.length : Int) = 0 by omega)]
      refine Som_of rfl (Som_of rfl (Som_of rfl (Som_of rfl (Som_of rfl (Som_of rfl (Som_of rfl (Som_of rfl (Som_of rfl ?_))))))))
      rw [WIf_false]
      exact fin k1 (by omega) (by omega) (fun _ => he) (fun hh => absurd hh hz)
    · rw [decide_eq_true (show i ≠ (L.next : Int) - 1 + 1 by omega)]
      refine Som_of rfl (Som_of rfl (Som_of rfl (Som_of rfl (Som_of rfl (Som_of rfl (Som_of rfl (Som_of rfl (Som_of rfl (Som_of rfl (Som_of rfl (Som_of rfl (Som_of rfl (Som_of rfl (Som_of rfl ?_))))))))))))))
      rw [WIf_true]
      exact no k1 fun hx => he (hx.1 hz)
def Lg.begin (L : Lg) (i : Nat) : Lg := if L.recs = [] then { L with first := i } else L
theorem begin_c (ht : Tab tab) (ho : Ok σ) (h : LgAt σ G l d L rv mr) {i : Nat} (hQ : ∀ v σ', LgAt σ' G l d (L.begin i) rv mr → Keep (fun x => x = l.nat) σ σ' → Q v σ') : WF tab 79 [.ptr l 0, .int .i64 (i : Int)] σ Q := by
  refine f79_wf ht.t79 ?_
  unfold f79
  refine Som_of rfl (Som_of (vField0 _ _ _) (Som_of (ld h.blk rfl) (Som_of h.rg.sl.len (Som_of (bin_eql _ _ _ _) ?_))))
  refine WIf_dec (fun hz => ?_) (fun hz => ?_)
  · have hz' : L.recs = [] := List.eq_nil_of_length_eq_zero (by omega)
    refine Som_of rfl (Som_of (vField0 _ _ _) (Eff_of (store1_of h.blk (by simp) rfl) ?_))
    rw [Ret_none]
    obtain ⟨h1, k1⟩ := h.set ho { L with first := i } rfl (cs := _) rfl
    refine hQ _ _ ?_ k1
    unfold Lg.begin; rw [if_pos hz']; exact h1
  · rw [Ret_none]
    refine hQ _ _ ?_ (Keep.refl ho)
    unfold Lg.begin; rw [if_neg (fun e => hz (by rw [e]; rfl))]; exact h
def bytesF (age : Nat) : Nat → List (List Nat) → Nat
  | _, [] => 0
  | i, r :: l => longF age i r + bytesF age (i + 1) l
theorem bytesF_le {age i : Nat} {rs : List (List Nat)} (ha : age < 4611686018427387904) (hi : i + rs.length < 4611686018427387904) (hr : ∀ r ∈ rs, Bytes r ∧ r.length ≤ 20000) : bytesF age i rs ≤ rs.length * 20048 := by
  induction rs generalizing i with
  | nil => simp [bytesF]
  | cons r rs ih =>
    show longF age i r + bytesF age (i + 1) rs ≤ (rs.length + 1) * 20048
    have h1 := longF_le (age := age) (i := i) (r := r) ha (by rw [List.length_cons] at hi; omega)
    have h2 := ih (i := i + 1) (by rw [List.length_cons] at hi; omega) fun x hx => hr x (List.mem_cons_of_mem _ hx)
    have h3 := (hr r List.mem_cons_self).2
    rw [Nat.add_mul]; omega
theorem bytes_loop (ht : Tab tab) (k : Nat) : ∀ (E : En) (σ : S) (v : AVal) (rs : List (List Nat)) (m i fr c : Nat), Ok σ → LgAt σ G l d L rv mr → LgOk L → SlAt σ v 1 rs.length (strs rs) m → (∀ r ∈ rs, Bytes r ∧ r.length ≤ 20000) → fr ≤ 2199023255552 → rs.length ≤ 1000000000 → i + k = rs.length →
    c + bytesF L.age (fr + i) (rs.drop i) = bytesF L.age fr rs → E 0 = .ptr l 0 → E 1 = .int .i64 (fr : Int) → E 10 = v → E 11 = .int .i64 (rs.length : Int) → E 12 = .int .i64 (i : Int) → E 7 = .int .i64 (c : Int) →
    (∀ σ', Keep0 σ σ' → Q (.int .i64 ((bytesF L.age fr rs : Nat) : Int)) σ') → f76.L0 (WF tab) Q E σ := by
  induction k with
  | zero =>
    intro E σ v rs m i fr c ho h hok hv hrs hfr hlen hi hc h0 h1 h10 h11 h12 h7 hQ
    refine f76.p0_of ?_
    unfold f76.p0
    rw [h12, h11, h7]
    refine Som_of (bin_lss _ _ _ _) ?_
    refine WIf_f (by omega) ?_
    rw [Ret_1 rfl]
    rw [List.drop_of_length_le (by omega)] at hc
    have : c = bytesF L.age fr rs := by simpa [bytesF] using hc
    rw [this]
    exact hQ σ (Keep0.nil ho)
  | succ k ih =>
    intro E σ v rs m i fr c ho h hok hv hrs hfr hlen hi hc h0 h1 h10 h11 h12 h7 hQ
    refine f76.p0_of ?_
    unfold f76.p0
    rw [h12, h11, h7, h10, h0, h1]
    refine Som_of (bin_lss _ _ _ _) ?_
    refine WIf_t (by omega) ?_
    have hx : i < rs.length := by omega
    obtain ⟨q, q1, q2⟩ := hv.get1 (k := i) hx
    have hg : (strs rs)[i]? = some (.str rs[i]) := by
      show (rs.map AVal.str)[i]? = _
      rw [List.getElem?_map, List.getElem?_eq_getElem hx]; rfl
    have hri := hrs rs[i] (List.getElem_mem _)
    have hage := hok.age
    rw [hg] at q2
    refine Som_of q1 (Som_of q2 (Som_of rfl (Som_of (vField0 _ _ _) (Som_of (ld h.blk rfl) (Som_of (bin_add _ _ _ _) ?_)))))
    rw [wrap_i64_in (n := (fr : Int) + (i : Int)) (by omega) (by omega)]
    refine long_c ht ho ⟨by omega, by omega⟩ ⟨by omega, by omega⟩ (by omega) fun σ1 k1 => ?_
    have e1 : ((L.age : Int)).toNat = L.age := by omega
    have e2 : ((fr : Int) + (i : Int)).toNat = fr + i := by omega
    rw [e1, e2]
    have hb := longF_le (age := L.age) (i := fr + i) (r := rs[i]) (by omega) (by omega)
    rw [List.drop_eq_getElem_cons hx] at hc
    have hc' : c + longF L.age (fr + i) rs[i] + bytesF L.age (fr + (i + 1)) (rs.drop (i + 1)) = bytesF L.age fr rs := by
      rw [← hc]
      show _ = c + (longF L.age (fr + i) rs[i] + bytesF L.age (fr + i + 1) (rs.drop (i + 1)))
      rw [Nat.add_assoc, Nat.add_assoc fr]
    have htot := bytesF_le (age := L.age) (i := fr) (rs := rs) (by omega) (by omega) hrs
    refine Som_of (bin_add _ _ _ _) (Som_of (bin_add _ _ _ _) ?_)
    rw [wrap_i64_in (n := (c : Int) + ((longF L.age (fr + i) rs[i] : Nat) : Int)) (by omega) (by omega), wrap_i64_in (n := (i : Int) + 1) (by omega) (by omega)]
    refine ih _ σ1 v rs m (i + 1) fr (c + longF L.age (fr + i) rs[i]) k1.ok (h.keep0 k1) hok (hv.keep (fun _ h => h) k1) hrs hfr hlen (by omega) hc' (by simp [h0]) (by simp [h1]) (by simp [h10]) (by simp [h11]) (by simp) (by simp) fun σ' k' => hQ σ' (k1.trans k')
theorem bytes_c (ht : Tab tab) (ho : Ok σ) (h : LgAt σ G l d L rv mr) (hok : LgOk L) {v : AVal} {rs : List (List Nat)} {m fr : Nat} (hv : SlAt σ v 1 rs.length (strs rs) m) (hrs : ∀ r ∈ rs, Bytes r ∧ r.length ≤ 20000) (hfr : fr ≤ 2199023255552) (hlen : rs.length ≤ 1000000000)
    (hQ : ∀ σ', Keep0 σ σ' → Q (.int .i64 ((bytesF L.age fr rs : Nat) : Int)) σ') : WF tab 76 [.ptr l 0, .int .i64 (fr : Int), v] σ Q := by
  refine f76_wf ht.t76 ?_
  unfold f76
  refine Som_of hv.len ?_
  exact bytes_loop ht rs.length _ σ v rs m 0 fr 0 ho h hok hv hrs hfr hlen (by omega) (by simp) (by simp) (by simp) (by simp) (by simp) (by simp) (by simp) hQ
end
end Go.Am
namespace Go.Am
section
variable {tab : Nat → Option PFn} {σ : S} {Q : AVal → S → Prop} {G : Nat → Prop} {l d : Pos} {L : Lg} {rv : AVal} {mr : Nat}
theorem strs_len (rs : List (List Nat)) : (strs rs).length = rs.length := by simp
theorem LgAt.setR {σ' : S} {G' : Nat → Prop} {rv' : AVal} {mr' : Nat} (ho : Ok σ') (hb : σ'.blk l = some ⟨0, .ex, [.ptr d 0, .int .i64 (L.file : Int), .int .i64 (L.age : Int), .int .i64 (L.first : Int), rv, .int .i64 (L.size : Int), .int .i64 (L.live : Int)]⟩)
    (rs : List (List Nat)) (hg : GrAt σ' rv' 1 rs.length (strs rs) mr') (h1 : mr' ≠ l.nat) (h2 : G' l.nat) (h3 : G' mr') (h4 : ∀ x, G' x → x < σ'.next.nat) :
    LgAt (σ'.upd l ⟨0, .ex, [.ptr d 0, .int .i64 (L.file : Int), .int .i64 (L.age : Int), .int .i64 (L.first : Int), rv', .int .i64 (L.size : Int), .int .i64 (L.live : Int)]⟩) G' l d { L with recs := rs } rv' mr' ∧
    Keep (fun x => x = l.nat) σ' (σ'.upd l ⟨0, .ex, [.ptr d 0, .int .i64 (L.file : Int), .int .i64 (L.age : Int), .int .i64 (L.first : Int), rv', .int .i64 (L.size : Int), .int .i64 (L.live : Int)]⟩) := by
  have k : Keep (fun x => x = l.nat) σ' _ := Keep.upd ho hb (c := ⟨0, .ex, [.ptr d 0, .int .i64 (L.file : Int), .int .i64 (L.age : Int), .int .i64 (L.first : Int), rv', .int .i64 (L.size : Int), .int .i64 (L.live : Int)]⟩) rfl
  exact ⟨⟨blk_upd_same _ _, hg.keep h1 k, h1, h2, h3, fun x hx => h4 x hx⟩, k⟩
def Lg.add (L : Lg) (i : Nat) (r : List Nat) : Lg := { L.begin i with recs := L.recs ++ [r], live := L.live + longF L.age i r }
theorem Lg.begin_recs (L : Lg) (i : Nat) : (L.begin i).recs = L.recs := by unfold Lg.begin; split <;> rfl
theorem Lg.begin_age (L : Lg) (i : Nat) : (L.begin i).age = L.age := by unfold Lg.begin; split <;> rfl
theorem Lg.begin_live (L : Lg) (i : Nat) : (L.begin i).live = L.live := by unfold Lg.begin; split <;> rfl
theorem Lg.begin_file (L : Lg) (i : Nat) : (L.begin i).file = L.file := by unfold Lg.begin; split <;> rfl
theorem Lg.begin_size (L : Lg) (i : Nat) : (L.begin i).size = L.size := by unfold Lg.begin; split <;> rfl
theorem LgOk.begin (h : LgOk L) {i : Nat} (hi : i ≤ 2199023255552) : LgOk (L.begin i) := by
  unfold Lg.begin
  split
  · exact ⟨h.age, hi, h.recs, h.many, h.size, h.live⟩
  · exact h
theorem add_lc (ht : Tab tab) (ho : Ok σ) (h : LgAt σ G l d L rv mr) (hok : LgOk L) {i : Nat} {r : List Nat} (hi : i ≤ 2199023255552) (hr : Bytes r ∧ r.length ≤ 20000) (hm : L.recs.length < 1000000000)
    (hQ : ∀ v σ' G' rv' mr', LgAt σ' G' l d (L.add i r) rv' mr' → Keep (lM l mr) σ σ' → Gr σ G G' → (mr' = mr ∨ σ.next.nat ≤ mr') → Q v σ') : WF tab 52 [.ptr l 0, .int .i64 (i : Int), .str r] σ Q := by
  refine f52_wf ht.t52 ?_
  unfold f52
  refine begin_c ht ho h fun _ σ1 h1 k1 => ?_
  have hok1 := hok.begin hi
  have eb1 := L.begin_recs i; have eb2 := L.begin_age i; have eb3 := L.begin_live i
  have hL : L.add i r = { L.begin i with recs := (L.begin i).recs ++ [r], live := (L.begin i).live + longF (L.begin i).age i r } := by
    unfold Lg.add; rw [eb1, eb2, eb3]
  have hm1 : (L.begin i).recs.length < 1000000000 := by rw [eb1]; exact hm
  rw [hL] at hQ
  clear hL
  generalize L.begin i = L1 at *
  have k1' : Keep (lM l mr) σ σ1 := k1.mono fun x e => .inl e
  refine Som_of rfl (Som_of (vField0 _ _ _) (Som_of (ld h1.blk rfl) (Ala_of (made1 _ rfl _) ?_)))
  have k2 : Keep0 σ1 (σ1.new ⟨1, .ex, [.str r]⟩) := Keep.new k1.ok _
  have s2 := made1_sl (σ := σ1) (.str r)
  have h2 := h1.keep0 k2
  generalize σ1.new ⟨1, .ex, [.str r]⟩ = σ2 at *
  obtain ⟨v3, σ3, m3, a3, g3, k3, l3⟩ := append_gr k2.ok h2.rg s2.slLen (s2.slRead (Nat.le_refl 1)) (by rfl) (bytes := 16) (by omega)
  refine Eff_of a3 ?_
  have n1 := k1.next; have n2 := k2.next; have n3 := k3.next
  have b3 := k3.old _ _ h2.blk (fun e => h.n1 e.symm)
  have g3' : GrAt σ3 v3 1 (L1.recs ++ [r]).length (strs (L1.recs ++ [r])) m3 := by
    rw [List.length_append]
    show GrAt σ3 v3 1 (L1.recs.length + 1) ((L1.recs ++ [r]).map .str) m3
    rw [List.map_append]; exact g3
  have hGl : ∀ x, G x → x < σ3.next.nat := fun x hx => by have := h2.gl x hx; omega
  have hll := k1.ok.lt h1.blk
  have hm3 : m3 = mr ∨ σ.next.nat ≤ m3 := by omega
  have hgm := h.gl mr h.g2
  have hnl : m3 ≠ l.nat := by
    have := h.n1
    have := ho.lt h.blk
    omega
  refine Som_of rfl (Som_of (vField0 _ _ _) (Eff_of (store1_of b3 (by simp) g3.sl.cells) ?_))
  obtain ⟨h4, k4⟩ := LgAt.setR (G' := fun x => G x ∨ x = m3) k3.ok b3 (L1.recs ++ [r]) g3' hnl (.inl h.g1) (.inr rfl) (fun x hx => by
    rcases hx with hx | hx
    · exact hGl x hx
    · rw [hx]
      rcases l3 with e | e
      · rw [e]; exact hGl mr h.g2
      · exact e.2)
  have k14 : Keep (lM l mr) σ (σ3.upd l ⟨0, .ex, [.ptr d 0, .int .i64 (L1.file : Int), .int .i64 (L1.age : Int), .int .i64 (L1.first : Int), v3, .int .i64 (L1.size : Int), .int .i64 (L1.live : Int)]⟩) :=
    ((k1'.trans (Keep0.to k2)).trans (k3.mono fun x e => .inr e)).trans (k4.mono fun x e => .inl e)
  have e4 : ([AVal.ptr d 0, .int .i64 (L1.file : Int), .int .i64 (L1.age : Int), .int .i64 (L1.first : Int), rv, .int .i64 (L1.size : Int), .int .i64 (L1.live : Int)].set (0 + 4) v3) = [.ptr d 0, .int .i64 (L1.file : Int), .int .i64 (L1.age : Int), .int .i64 (L1.first : Int), v3, .int .i64 (L1.size : Int), .int .i64 (L1.live : Int)] := rfl
  rw [e4]
  generalize σ3.upd l ⟨0, .ex, [.ptr d 0, .int .i64 (L1.file : Int), .int .i64 (L1.age : Int), .int .i64 (L1.first : Int), v3, .int .i64 (L1.size : Int), .int .i64 (L1.live : Int)]⟩ = σ4 at *
  have k5 : Keep0 σ4 (σ4.bumpT 15) := Keep.bump k4.ok 15
  have h5 := h4.keep0 k5
  have hage := hok1.age; have hlive := hok1.live
  refine Som_of rfl (Som_of (vField0 _ _ _) (Som_of (ld h5.blk rfl) (Som_of rfl (Som_of (vField0 _ _ _) (Som_of (ld h5.blk rfl) ?_)))))
  refine long_c ht k5.ok (show Num62 (L1.age : Int) from ⟨by omega, by omega⟩) ⟨by omega, by omega⟩ (by omega) fun σ6 k6 => ?_
  rw [show ((L1.age : Int)).toNat = L1.age by omega, show ((i : Int)).toNat = i by omega]
  have h6 := h5.keep0 k6
  have hb := longF_le (age := L1.age) (i := i) (r := r) (by omega) (by omega)
  refine Sure_of (SameO_of (ld h6.blk rfl) (same_int _ _)) ?_
  refine Som_of (bin_add _ _ _ _) ?_
  have e6 : IntKind.i64.wrap ((L1.live : Int) + ((longF L1.age i r : Nat) : Int)) = ((L1.live + longF L1.age i r : Nat) : Int) := by
    rw [wrap_i64_in (n := (L1.live : Int) + ((longF L1.age i r : Nat) : Int)) (by omega) (by omega)]; omega
  rw [e6]
  refine Som_of rfl (Som_of (vField0 _ _ _) (Eff_of (store1_of h6.blk (by simp) rfl) ?_))
  rw [Ret_none]
  obtain ⟨h7, k7⟩ := h6.set k6.ok { { L1 with recs := L1.recs ++ [r] } with live := L1.live + longF L1.age i r } rfl (cs := _) rfl
  have n5 := k5.next
  refine hQ _ _ (fun x => G x ∨ x = m3) v3 m3 h7 (((k14.trans (Keep0.to k5)).trans (Keep0.to k6)).trans (k7.mono fun x e => .inl e)) ⟨fun x hx => .inl hx, fun x hx hg => ?_⟩ hm3
  rcases hg with hg | hg
  · exact hg
  · rcases hm3 with e | e
    · rw [hg, e]; exact h.g2
    · omega
def Lg.keep (L : Lg) (fr : Nat) (rs : List (List Nat)) : Lg := { L with first := fr, recs := rs, live := bytesF L.age fr rs }
theorem keep_c (ht : Tab tab) (ho : Ok σ) (h : LgAt σ G l d L rv mr) (hok : LgOk L) {v : AVal} {rs : List (List Nat)} {m fr : Nat} (hv : SlAt σ v 1 rs.length (strs rs) m) (hm : rs ≠ [] → m ≠ l.nat) (hrs : ∀ r ∈ rs, Bytes r ∧ r.length ≤ 20000) (hfr : fr ≤ 2199023255552) (hlen : rs.length ≤ 1000000000)
    (hQ : ∀ w σ' G' rv' mr', LgAt σ' G' l d (L.keep fr rs) rv' mr' → Keep (fun x => x = l.nat) σ σ' → Gr σ G G' → (mr' = mr ∨ σ.next.nat ≤ mr') → Q w σ') : WF tab 75 [.ptr l 0, .int .i64 (fr : Int), v] σ Q := by
  refine f75_wf ht.t75 ?_
  unfold f75
  refine Som_of rfl (Som_of (vField0 _ _ _) (Eff_of (store1_of h.blk (by simp) rfl) ?_))
  obtain ⟨h1, k1⟩ := h.set ho { L with first := fr } rfl (cs := _) rfl
  have hok1 : LgOk { L with first := fr } := ⟨hok.age, hfr, hok.recs, hok.many, hok.size, hok.live⟩
  have e1 : ([AVal.ptr d 0, .int .i64 (L.file : Int), .int .i64 (L.age : Int), .int .i64 (L.first : Int), rv, .int .i64 (L.size : Int), .int .i64 (L.live : Int)].set (0 + 3) (.int .i64 (fr : Int))) = [.ptr d 0, .int .i64 (L.file : Int), .int .i64 (L.age : Int), .int .i64 (fr : Int), rv, .int .i64 (L.size : Int), .int .i64 (L.live : Int)] := rfl
  rw [e1]
  generalize hs1 : σ.upd l ⟨0, .ex, [.ptr d 0, .int .i64 (L.file : Int), .int .i64 (L.age : Int), .int .i64 (fr : Int), rv, .int .i64 (L.size : Int), .int .i64 (L.live : Int)]⟩ = σ1 at *
  have hs1' : σ1 = σ.upd l ⟨0, .ex, [.ptr d 0, .int .i64 (L.file : Int), .int .i64 (L.age : Int), .int .i64 (fr : Int), rv, .int .i64 (L.size : Int), .int .i64 (L.live : Int)]⟩ := hs1.symm
  have k1' : Keep (fun x => x = l.nat) σ σ1 := by rw [hs1']; exact Keep.upd ho h.blk rfl
  have h1' : LgAt σ1 G l d { L with first := fr } rv mr := by rw [hs1']; exact (h.set ho { L with first := fr } rfl (cs := _) rfl).1
  clear h1 k1 hs1 hs1'
  have hv1 : SlAt σ1 v 1 rs.length (strs rs) m := hv.keep (fun hz e => hm (fun he => by subst he; simp at hz) e) k1'
  -- the records in new memory
  have happ : ∃ w σ2 G' mr', appendA 1 16 .nsl v σ1 = some (w, σ2) ∧ GrAt σ2 w 1 rs.length (strs rs) mr' ∧ Keep0 σ1 σ2 ∧ (mr' = mr ∨ σ1.next.nat ≤ mr') ∧ G' = (fun x => G x ∨ x = mr') ∧ mr' < σ2.next.nat := by
    have hmlt := h1'.gl mr h.g2
    by_cases hz : rs = []
    · subst hz
      refine ⟨.nsl, σ1, _, mr, ?_, GrAt.nil σ1 1 mr, Keep0.nil k1'.ok, .inl rfl, rfl, hmlt⟩
      unfold appendA
      rw [hv1.slLen]; rfl
    · obtain ⟨w, σ2, m2, a2, g2, k2, l2⟩ := append_gr k1'.ok (GrAt.nil σ1 1 σ1.next.nat) hv1.slLen (hv1.slRead (Nat.le_refl _)) (by rw [Nat.mul_one, List.take_of_length_le (by rw [strs_len]; omega), strs_len]) (bytes := 16) (by omega)
      have hne : 0 < rs.length := List.length_pos_iff.2 hz
      have hl2 : σ1.next.nat ≤ m2 := by omega
      have g2' : GrAt σ2 w 1 rs.length (strs rs) m2 := by
        rw [Nat.zero_add, List.nil_append, Nat.mul_one, List.take_of_length_le (by rw [strs_len]; omega)] at g2
        exact g2
      have hml2 : m2 < σ2.next.nat := SlAt.own_lt g2'.sl k2.ok (by omega)
      exact ⟨w, σ2, _, m2, a2, g2', Keep.empty k1'.ok (Nat.le_refl _) k2, .inr hl2, rfl, hml2⟩
  obtain ⟨w, σ2, G', mr', a2, g2, k2, l2, hG', hlt2⟩ := happ
  refine Eff_of a2 ?_
  have h2 := h1'.keep0 k2
  have n1 := k1'.next
  have n2 := k2.next
  have hll := ho.lt h.blk
  have hnl : mr' ≠ l.nat := by
    rcases l2 with e | e
    · rw [e]; exact h.n1
    · omega
  refine Som_of rfl (Som_of (vField0 _ _ _) (Eff_of (store1_of h2.blk (by simp) g2.sl.cells) ?_))
  obtain ⟨h3, k3⟩ := LgAt.setR (G' := G') k2.ok h2.blk rs g2 hnl (by rw [hG']; exact .inl h.g1) (by rw [hG']; exact .inr rfl) (fun x hx => by
    rw [hG'] at hx
    rcases hx with hx | hx
    · exact h2.gl x hx
    · rw [hx]; exact hlt2)
  have e3 : ([AVal.ptr d 0, .int .i64 (L.file : Int), .int .i64 (L.age : Int), .int .i64 (fr : Int), rv, .int .i64 (L.size : Int), .int .i64 (L.live : Int)].set (0 + 4) w) = [.ptr d 0, .int .i64 (L.file : Int), .int .i64 (L.age : Int), .int .i64 (fr : Int), w, .int .i64 (L.size : Int), .int .i64 (L.live : Int)] := rfl
  have h3' : LgAt (σ2.upd l ⟨0, .ex, [.ptr d 0, .int .i64 (L.file : Int), .int .i64 (L.age : Int), .int .i64 (fr : Int), w, .int .i64 (L.size : Int), .int .i64 (L.live : Int)]⟩) G' l d { L with first := fr, recs := rs } w mr' := h3
  have k3' : Keep (fun x => x = l.nat) σ2 (σ2.upd l ⟨0, .ex, [.ptr d 0, .int .i64 (L.file : Int), .int .i64 (L.age : Int), .int .i64 (fr : Int), w, .int .i64 (L.size : Int), .int .i64 (L.live : Int)]⟩) := k3
  show WF tab 76 _ (σ2.upd l ⟨0, .ex, [AVal.ptr d 0, .int .i64 (L.file : Int), .int .i64 (L.age : Int), .int .i64 (fr : Int), w, .int .i64 (L.size : Int), .int .i64 (L.live : Int)]⟩) _
  generalize σ2.upd l ⟨0, .ex, [AVal.ptr d 0, .int .i64 (L.file : Int), .int .i64 (L.age : Int), .int .i64 (fr : Int), w, .int .i64 (L.size : Int), .int .i64 (L.live : Int)]⟩ = σ3 at *
  have hv3 : SlAt σ3 v 1 rs.length (strs rs) m := (hv1.keep (fun _ h => h) k2).keep (fun hz e => hm (fun he => by subst he; simp at hz) e) k3'
  have hok3 : LgOk { L with first := fr, recs := rs } := ⟨hok.age, hfr, hrs, hlen, hok.size, hok.live⟩
  refine bytes_c ht k3'.ok h3' hok3 hv3 hrs hfr hlen fun σ4 k4 => ?_
  have h4 := h3'.keep0 k4
  refine Som_of rfl (Som_of (vField0 _ _ _) (Eff_of (store1_of h4.blk (by simp) rfl) ?_))
  rw [Ret_none]
  obtain ⟨h5, k5⟩ := h4.set k4.ok { { L with first := fr, recs := rs } with live := bytesF L.age fr rs } rfl (cs := _) rfl
  refine hQ _ _ G' w mr' h5 ((((k1'.trans (Keep0.to k2)).trans k3').trans (Keep0.to k4)).trans k5) ⟨fun x hx => by rw [hG']; exact .inl hx, fun x hx hg => ?_⟩ (by omega)
  rw [hG'] at hg
  rcases hg with hg | hg
  · exact hg
  · rcases l2 with e | e
    · rw [hg, e]; exact h.g2
    · omega
end
end Go.Am
namespace Go.Am
section
variable {tab : Nat → Option PFn} {σ : S} {Q : AVal → S → Prop} {G : Nat → Prop} {l d : Pos} {L : Lg} {rv : AVal} {mr : Nat}
noncomputable def redoF (L : Lg) (x : Part) : Option Lg :=
  if x.kind = 1 then (if L.takes x.i 1 then some (L.add x.i.toNat x.rec_) else none)
  else if x.kind = 2 then (if x.i < L.first ∨ (L.next : Int) < x.i then none else some (L.keep L.first (L.recs.take (x.i.toNat - L.first))))
  else if x.kind = 3 then (if x.i < L.first ∨ (L.next : Int) < x.i then none else some (L.keep x.i.toNat (L.recs.drop (x.i.toNat - L.first))))
  else if x.kind = 4 then (if L.takes x.i 0 then some (L.begin x.i.toNat) else none)
  else none
theorem redo_c (ht : Tab tab) (ho : Ok σ) (h : LgAt σ G l d L rv mr) (hok : LgOk L) {x : Part} (hx : -9223372036854775808 ≤ x.i ∧ x.i ≤ 9223372036854775807) (hr : Bytes x.rec_ ∧ x.rec_.length ≤ 20000) (hm : L.recs.length < 1000000000) (hin : L.first + L.recs.length ≤ 1099511627777)
    (hN : ∀ σ', redoF L x = none → Keep0 σ σ' → Q (.bool false) σ')
    (hS : ∀ L' σ' G' rv' mr', redoF L x = some L' → LgAt σ' G' l d L' rv' mr' → Keep (lM l mr) σ σ' → Gr σ G G' → (mr' = mr ∨ σ.next.nat ≤ mr') → Q (.bool true) σ') : WF tab 74 [.ptr l 0, x.val] σ Q := by
  refine f74_wf ht.t74 ?_
  unfold f74
  obtain ⟨kind, age, i, n, rec_⟩ := x
  have hx : -9223372036854775808 ≤ i ∧ i ≤ 9223372036854775807 := hx
  have hr : Bytes rec_ ∧ rec_.length ≤ 20000 := hr
  have hf := hok.first
  refine Ala_of (show aBoxV (Part.val ⟨kind, age, i, n, rec_⟩) = some (⟨0, .ex, [.int .i64 kind, .int .i64 age, .int .i64 i, .int .i64 n, .str rec_]⟩, fun p => .ptr p 0) from rfl) ?_
  have k1 : Keep0 σ (σ.new ⟨0, .ex, [.int .i64 kind, .int .i64 age, .int .i64 i, .int .i64 n, .str rec_]⟩) := Keep.new ho _
  have b1 : (σ.new ⟨0, .ex, [.int .i64 kind, .int .i64 age, .int .i64 i, .int .i64 n, .str rec_]⟩).blk σ.next = some ⟨0, .ex, [.int .i64 kind, .int .i64 age, .int .i64 i, .int .i64 n, .str rec_]⟩ := by rw [blk_new, if_pos rfl]; rfl
  have h1 := h.keep0 k1
  have n1 := new_next (σ := σ) ⟨0, .ex, [.int .i64 kind, .int .i64 age, .int .i64 i, .int .i64 n, .str rec_]⟩
  generalize σ.new ⟨0, .ex, [.int .i64 kind, .int .i64 age, .int .i64 i, .int .i64 n, .str rec_]⟩ = σ1 at *
  have hnl : L.next = L.first + L.recs.length := rfl
  have gr : ∀ {σ2 : S} {G' : Nat → Prop}, Keep0 σ σ2 → Gr σ2 G G' → Gr σ G G' := fun k g => ⟨g.1, fun x hx hg => g.2 x (by have := k.next; omega) hg⟩
  refine Som_of (vField0 _ _ _) (Som_of (ld b1 rfl) (Som_of (bin_eql _ _ _ _) ?_))
  refine WIf_dec (fun hk1 => ?_) (fun hk1 => ?_)
  · -- a record more
    subst hk1
    refine Som_of (vField0 _ _ _) (Som_of (ld b1 rfl) ?_)
    refine takes_c ht k1.ok h1 hok (n := 1) (by omega) hx fun σ2 k2 => ?_
    refine Som_of (un_not _) ?_
    have k12 := k1.trans k2
    by_cases htk : L.takes i 1
    · rw [decide_eq_true htk, show (!true) = false from rfl, WIf_false]
      have b2 := k2.old _ _ b1 (fun h => h)
      have h2 := h1.keep0 k2
      have hi0 : 0 ≤ i ∧ i ≤ 1099511627777 := by
        have h3 := htk.2.2
        by_cases hz : L.recs = []
        · have := htk.2.1 hz; omega
        · have := htk.1 hz; omega
      obtain ⟨j, hj⟩ := Int.eq_ofNat_of_zero_le hi0.1
      refine Som_of (vField0 _ _ _) (Som_of (ld b2 rfl) (Som_of (vField0 _ _ _) (Som_of (ld b2 rfl) ?_)))
      have hrd : redoF L ⟨1, age, i, n, rec_⟩ = some (L.add j rec_) := by
        show (if (1 : Int) = 1 then (if L.takes i 1 then some (L.add i.toNat rec_) else none) else _) = _
        rw [if_pos rfl, if_pos htk, hj]; rfl
      rw [hj]
      refine add_lc ht k12.ok h2 hok (by omega) hr hm fun v σ3 G' rv' mr' h3 k3 g3 l3 => ?_
      rw [Ret_1 rfl]
      have n2 := k12.next
      exact hS _ σ3 G' rv' mr' hrd h3 ((Keep0.to k12).trans k3) (gr k12 g3) (by omega)
    · rw [decide_eq_false htk, show (!false) = true from rfl, WIf_true, Ret_1 rfl]
      refine hN _ ?_ k12
      show (if (1 : Int) = 1 then (if L.takes i 1 then some (L.add i.toNat rec_) else none) else _) = _
      rw [if_pos rfl, if_neg htk]
  have hk1' : ¬ kind = 1 := by omega
  refine Som_of (bin_eql _ _ _ _) ?_
  refine WIf_dec (fun hk2 => ?_) (fun hk2 => ?_)
  · -- cut
    subst hk2
    have k2 : Keep0 σ1 (σ1.bumpT 15) := Keep.bump k1.ok 15
    have h2 := h1.keep0 k2
    have b2 := k2.old _ _ b1 (fun h => h)
    have k12 := k1.trans k2
    refine Som_of (vField0 _ _ _) (Som_of (ld b2 rfl) (Som_of rfl (Som_of (vField0 _ _ _) (Som_of (ld h2.blk rfl) (Som_of (bin_lss _ _ _ _) ?_)))))
    have no : ∀ {σ'}, Keep0 σ σ' → (i < L.first ∨ (L.next : Int) < i) → Ret [some (.bool false)] σ' Q := fun k hb => by
      rw [Ret_1 rfl]
      refine hN _ ?_ k
      show (if (2 : Int) = 1 then _ else if (2 : Int) = 2 then (if i < L.first ∨ (L.next : Int) < i then none else some _) else _) = _
      rw [if_neg (by omega), if_pos rfl, if_pos hb]
    by_cases hlt : i < L.first
    · rw [decide_eq_true hlt]
      refine Som_of rfl (Som_of rfl (Som_of rfl (GE_n rfl (Som_of rfl (Som_of rfl (Som_of rfl ?_))))))
      rw [WIf_true]
      exact no k12 (.inl hlt)
    · rw [decide_eq_false hlt]
      refine Sq_of rfl (vField0 _ _ _) (Sq_of rfl (ld b2 rfl) (Som_of rfl (GE_t rfl ?_)))
      refine last_c ht k2.ok h2 hok fun σ3 k3 => ?_
      have b3 := k3.old _ _ b2 (fun h => h)
      have h3 := h2.keep0 k3
      have k13 := k12.trans k3
      refine Sure_of (by rw [SameO_of (ld b3 rfl) (same_int _ _)]; rfl) ?_
      refine Sq_of rfl (bin_add _ _ _ _) (Sq_of rfl (bin_gtr _ _ _ _) (Som_of rfl ?_))
      have hm' := hok.many
      rw [wrap_i64_in (n := (L.next : Int) - 1 + 1) (by omega) (by omega)]
      refine WIf_dec (fun hgt => ?_) (fun hle => ?_)
      · exact no k13 (.inr (by omega))
      · obtain ⟨j, hj⟩ := Int.eq_ofNat_of_zero_le (show 0 ≤ i by omega)
        have k4 : Keep0 σ3 (σ3.bumpT 18) := Keep.bump k3.ok 18
        have h4 := h3.keep0 k4
        have b4 := k4.old _ _ b3 (fun h => h)
        have k14 := k13.trans k4
        refine Som_of rfl (Som_of (vField0 _ _ _) (Som_of (ld h4.blk rfl) (Som_of rfl (Som_of (vField0 _ _ _) (Som_of (ld h4.blk rfl) (Som_of (vField0 _ _ _) (Som_of (ld b4 rfl) (Som_of rfl (Som_of (vField0 _ _ _) (Som_of (ld h4.blk rfl) (Som_of (bin_sub _ _ _ _) ?_)))))))))))
        have e1 : IntKind.i64.wrap (i - (L.first : Int)) = ((j - L.first : Nat) : Int) := by
          rw [wrap_i64_in (n := i - (L.first : Int)) (by omega) (by omega)]; omega
        rw [e1]
        obtain ⟨w, w1, w2⟩ := SlAt.cutH h4.rg.sl (hi := j - L.first) (by omega)
        refine Som_of w1 ?_
        have hlen : (L.recs.take (j - L.first)).length = j - L.first := by rw [List.length_take]; omega
        have w2' : SlAt (σ3.bumpT 18) w 1 (L.recs.take (j - L.first)).length (strs (L.recs.take (j - L.first))) mr := by
          rw [hlen]
          show SlAt _ _ _ _ ((L.recs.take (j - L.first)).map .str) _
          rw [List.map_take, ← Nat.mul_one (j - L.first)]
          rw [Nat.mul_one] at w2 ⊢
          exact w2
        have hrd : redoF L ⟨2, age, i, n, rec_⟩ = some (L.keep L.first (L.recs.take (j - L.first))) := by
          show (if (2 : Int) = 1 then _ else if (2 : Int) = 2 then (if i < L.first ∨ (L.next : Int) < i then none else some (L.keep L.first (L.recs.take (i.toNat - L.first)))) else _) = _
          rw [if_neg (by omega), if_pos rfl, if_neg (by omega), hj]; rfl
        refine keep_c ht k14.ok h4 hok w2' (fun _ => h.n1) (fun r hr => hok.recs r (List.mem_of_mem_take hr)) hf (by omega) fun v σ5 G' rv' mr' h5 k5 g5 l5 => ?_
        rw [Ret_1 rfl]
        have n2 := k14.next
        exact hS _ σ5 G' rv' mr' hrd h5 ((Keep0.to k14).trans (k5.mono fun x e => .inl e)) (gr k14 g5) (by omega)
  refine Som_of (bin_eql _ _ _ _) ?_
  refine WIf_dec (fun hk3 => ?_) (fun hk3 => ?_)
  · -- drop
    subst hk3
    have k2 : Keep0 σ1 (σ1.bumpT 15) := Keep.bump k1.ok 15
    have h2 := h1.keep0 k2
    have b2 := k2.old _ _ b1 (fun h => h)
    have k12 := k1.trans k2
    refine Som_of (vField0 _ _ _) (Som_of (ld b2 rfl) (Som_of rfl (Som_of (vField0 _ _ _) (Som_of (ld h2.blk rfl) (Som_of (bin_lss _ _ _ _) ?_)))))
    have no : ∀ {σ'}, Keep0 σ σ' → (i < L.first ∨ (L.next : Int) < i) → Ret [some (.bool false)] σ' Q := fun k hb => by
      rw [Ret_1 rfl]
      refine hN _ ?_ k
      show (if (3 : Int) = 1 then _ else if (3 : Int) = 2 then _ else if (3 : Int) = 3 then (if i < L.first ∨ (L.next : Int) < i then none else some _) else _) = _
      rw [if_neg (by omega), if_neg (by omega), if_pos rfl, if_pos hb]
    by_cases hlt : i < L.first
    · rw [decide_eq_true hlt]
      refine Som_of rfl (Som_of rfl (Som_of rfl (GE_n rfl (Som_of rfl (Som_of rfl (Som_of rfl ?_))))))
      rw [WIf_true]
      exact no k12 (.inl hlt)
    · rw [decide_eq_false hlt]
      refine Sq_of rfl (vField0 _ _ _) (Sq_of rfl (ld b2 rfl) (Som_of rfl (GE_t rfl ?_)))
      refine last_c ht k2.ok h2 hok fun σ3 k3 => ?_
      have b3 := k3.old _ _ b2 (fun h => h)
      have h3 := h2.keep0 k3
      have k13 := k12.trans k3
      refine Sure_of (by rw [SameO_of (ld b3 rfl) (same_int _ _)]; rfl) ?_
      refine Sq_of rfl (bin_add _ _ _ _) (Sq_of rfl (bin_gtr _ _ _ _) (Som_of rfl ?_))
      have hm' := hok.many
      rw [wrap_i64_in (n := (L.next : Int) - 1 + 1) (by omega) (by omega)]
      refine WIf_dec (fun hgt => ?_) (fun hle => ?_)
      · exact no k13 (.inr (by omega))
      · obtain ⟨j, hj⟩ := Int.eq_ofNat_of_zero_le (show 0 ≤ i by omega)
        have k4 : Keep0 σ3 (σ3.bumpT 16) := Keep.bump k3.ok 16
        have h4 := h3.keep0 k4
        have b4 := k4.old _ _ b3 (fun h => h)
        have k14 := k13.trans k4
        refine Som_of (vField0 _ _ _) (Som_of (ld b4 rfl) (Som_of rfl (Som_of (vField0 _ _ _) (Som_of (ld h4.blk rfl) (Som_of (vField0 _ _ _) (Som_of (ld b4 rfl) (Som_of rfl (Som_of (vField0 _ _ _) (Som_of (ld h4.blk rfl) (Som_of (bin_sub _ _ _ _) ?_))))))))))
        have e1 : IntKind.i64.wrap (i - (L.first : Int)) = ((j - L.first : Nat) : Int) := by
          rw [wrap_i64_in (n := i - (L.first : Int)) (by omega) (by omega)]; omega
        rw [e1]
        obtain ⟨w, w1, w2⟩ := SlAt.cutL h4.rg.sl (lo := j - L.first) (by omega)
        refine Som_of w1 ?_
        have hlen : (L.recs.drop (j - L.first)).length = L.recs.length - (j - L.first) := by rw [List.length_drop]
        have w2' : SlAt (σ3.bumpT 16) w 1 (L.recs.drop (j - L.first)).length (strs (L.recs.drop (j - L.first))) mr := by
          rw [hlen]
          show SlAt _ _ _ _ ((L.recs.drop (j - L.first)).map .str) _
          rw [List.map_drop]
          rw [Nat.mul_one, Nat.mul_one, List.take_of_length_le (by rw [List.length_drop, strs_len]; omega)] at w2
          exact w2
        have hrd : redoF L ⟨3, age, i, n, rec_⟩ = some (L.keep j (L.recs.drop (j - L.first))) := by
          show (if (3 : Int) = 1 then _ else if (3 : Int) = 2 then _ else if (3 : Int) = 3 then (if i < L.first ∨ (L.next : Int) < i then none else some (L.keep i.toNat (L.recs.drop (i.toNat - L.first)))) else _) = _
          rw [if_neg (by omega), if_neg (by omega), if_pos rfl, if_neg (by omega), hj]; rfl
        rw [hj]
        refine keep_c ht k14.ok h4 hok w2' (fun _ => h.n1) (fun r hr => hok.recs r (List.mem_of_mem_drop hr)) (by omega) (by omega) fun v σ5 G' rv' mr' h5 k5 g5 l5 => ?_
        rw [Ret_1 rfl]
        have n2 := k14.next
        exact hS _ σ5 G' rv' mr' hrd h5 ((Keep0.to k14).trans (k5.mono fun x e => .inl e)) (gr k14 g5) (by omega)
  refine Som_of (bin_eql _ _ _ _) ?_
  refine WIf_dec (fun hk4 => ?_) (fun hk4 => ?_)
  · subst hk4
    refine Som_of (vField0 _ _ _) (Som_of (ld b1 rfl) ?_)
    refine takes_c ht k1.ok h1 hok (n := 0) (by omega) hx fun σ2 k2 => ?_
    refine Som_of (un_not _) ?_
    have k12 := k1.trans k2
    have hfalse : ∀ _P : Prop, redoF L ⟨4, age, i, n, rec_⟩ = (if L.takes i 0 then some (L.begin i.toNat) else none) := fun _ => by
      show (if (4 : Int) = 1 then _ else if (4 : Int) = 2 then _ else if (4 : Int) = 3 then _ else if (4 : Int) = 4 then (if L.takes i 0 then some (L.begin i.toNat) else none) else none) = _
      rw [if_neg (by omega), if_neg (by omega), if_neg (by omega), if_pos rfl]
    by_cases htk : L.takes i 0
    · rw [decide_eq_true htk, show (!true) = false from rfl, WIf_false]
      have b2 := k2.old _ _ b1 (fun h => h)
      have h2 := h1.keep0 k2
      have hi0 : 0 ≤ i ∧ i ≤ 1099511627777 := by
        have h3 := htk.2.2
        by_cases hz : L.recs = []
        · have := htk.2.1 hz; omega
        · have := htk.1 hz; omega
      obtain ⟨j, hj⟩ := Int.eq_ofNat_of_zero_le hi0.1
      refine Som_of (vField0 _ _ _) (Som_of (ld b2 rfl) ?_)
      have hrd : redoF L ⟨4, age, i, n, rec_⟩ = some (L.begin j) := by
        rw [hfalse True, if_pos htk, hj]; rfl
      rw [hj]
      refine begin_c ht k12.ok h2 fun v σ3 h3 k3 => ?_
      rw [Ret_1 rfl]
      exact hS _ σ3 G rv mr hrd h3 ((Keep0.to k12).trans (k3.mono fun x e => .inl e)) (Gr.refl _ _) (.inl rfl)
    · rw [decide_eq_false htk, show (!false) = true from rfl, WIf_true, Ret_1 rfl]
      refine hN _ ?_ k12
      rw [hfalse True, if_neg htk]
  · rw [Ret_1 rfl]
    refine hN _ ?_ k1
    show (if kind = 1 then _ else if kind = 2 then _ else if kind = 3 then _ else if kind = 4 then _ else none) = _
    rw [if_neg hk1, if_neg hk2, if_neg hk3, if_neg hk4]
structure LgIn (L : Lg) : Prop where
  lo : 1 ≤ L.first
  hi : L.first + L.recs.length ≤ 1099511627777
theorem LgOk.add (h : LgOk L) {i : Nat} {r : List Nat} (hi : i ≤ 2199023255552) (hr : Bytes r ∧ r.length ≤ 20000) (hm : L.recs.length < 1000000000) (hl : L.live ≤ 100000000000000 - 20048) : LgOk (L.add i r) := by
  have hb := h.begin hi
  have hage := h.age
  have := longF_le (age := L.age) (i := i) (r := r) (by omega) (by omega)
  refine ⟨hb.age, hb.first, fun x hx => ?_, ?_, hb.size, ?_⟩
  · rcases List.mem_append.1 hx with hx | hx
    · exact h.recs x hx
    · have : x = r := by simpa using hx
      rw [this]; exact hr
  · show (L.recs ++ [r]).length ≤ _
    rw [List.length_append]; show L.recs.length + 1 ≤ _; omega
  · show L.live + longF L.age i r ≤ _
    omega
theorem LgIn.add (h : LgIn L) {i : Nat} {r : List Nat} (ht : L.takes i 1) : LgIn (L.add i r) := by
  have h3 := ht.2.2
  unfold Lg.add Lg.begin
  by_cases hz : L.recs = []
  · have := ht.2.1 hz
    refine ⟨?_, ?_⟩
    · show 1 ≤ (if L.recs = [] then { L with first := i } else L : Lg).first
      rw [if_pos hz]; show 1 ≤ i; omega
    · show (if L.recs = [] then { L with first := i } else L : Lg).first + (L.recs ++ [r]).length ≤ _
      rw [if_pos hz, hz]; show i + 1 ≤ _; omega
  · have := ht.1 hz
    refine ⟨?_, ?_⟩
    · show 1 ≤ (if L.recs = [] then { L with first := i } else L : Lg).first
      rw [if_neg hz]; exact h.lo
    · show (if L.recs = [] then { L with first := i } else L : Lg).first + (L.recs ++ [r]).length ≤ _
      rw [if_neg hz, List.length_append]
      unfold Lg.next at this
      show L.first + (L.recs.length + 1) ≤ _
      omega
theorem LgOk.keep (h : LgOk L) {fr : Nat} {rs : List (List Nat)} (hf : fr ≤ 2199023255552) (hrs : ∀ r ∈ rs, Bytes r ∧ r.length ≤ 20000) (hl : rs.length ≤ 1000000000) : LgOk (L.keep fr rs) := by
  have hage := h.age
  have := bytesF_le (age := L.age) (i := fr) (rs := rs) (by omega) (by omega) hrs
  exact ⟨h.age, hf, hrs, hl, h.size, by show bytesF L.age fr rs ≤ _; omega⟩
end
end Go.Am
namespace Go.Am
section
variable {tab : Nat → Option PFn} {σ : S} {Q : AVal → S → Prop} {G : Nat → Prop} {l d : Pos} {L : Lg} {rv : AVal} {mr : Nat}
noncomputable def loopF (b : List Nat) : Nat → Lg → Nat → Lg × Nat
  | 0, L, w => (L, w)
  | n + 1, L, w => match nextW b L.size with
    | some (x, to) => if x.age = L.age then (match redoF L x with
      | some L' => loopF b n { L' with size := to } (if x.kind = 1 ∧ 0 < w then w - 1 else w)
      | none => (L, w)) else (L, w)
    | none => (L, w)
def headOk (x : Part) : Prop := x.kind = 0 ∧ 1 ≤ x.age ∧ x.age < 1125899906842624 ∧ 1 ≤ x.i ∧ x.i ≤ 1099511627777 ∧ 0 ≤ x.n
noncomputable instance (x : Part) : Decidable (headOk x) := Classical.propDecidable _
noncomputable def readF (b : List Nat) (file : Nat) : Option Lg := match nextW b 0 with
  | some (x, to) => if headOk x then
      (if (loopF b (b.length + 1) ⟨file, x.age.toNat, x.i.toNat, [], to, 0⟩ x.n.toNat).2 = 0 then some (loopF b (b.length + 1) ⟨file, x.age.toNat, x.i.toNat, [], to, 0⟩ x.n.toNat).1 else none)
    else none
  | none => none
theorem partOf_rec {p : List Nat} {s : Option Nat} {x : Part} (h : partOf p s = some x) : ∃ a, x.rec_ = p.drop a ∧ (-9223372036854775808 ≤ x.kind ∧ x.kind ≤ 9223372036854775807) ∧ (-9223372036854775808 ≤ x.age ∧ x.age ≤ 9223372036854775807) ∧ (-9223372036854775808 ≤ x.i ∧ x.i ≤ 9223372036854775807) ∧ (-9223372036854775808 ≤ x.n ∧ x.n ≤ 9223372036854775807) := by
  cases s with
  | none => cases h
  | some a => cases h; exact ⟨a, rfl, stepV_range p (some 0), stepV_range p (stepS p (some 0)), stepV_range p (stepS p (stepS p (some 0))), stepV_range p (stepS p (stepS p (stepS p (some 0))))⟩
theorem nextW_ok {b : List Nat} {a : Nat} {x : Part} {to : Nat} (h : nextW b a = some (x, to)) (hb : Bytes b) :
    to ≤ b.length ∧ a < to ∧ (Bytes x.rec_ ∧ x.rec_.length ≤ 20000) ∧ (-9223372036854775808 ≤ x.kind ∧ x.kind ≤ 9223372036854775807) ∧ (-9223372036854775808 ≤ x.age ∧ x.age ≤ 9223372036854775807) ∧ (-9223372036854775808 ≤ x.i ∧ x.i ≤ 9223372036854775807) ∧ (-9223372036854775808 ≤ x.n ∧ x.n ≤ 9223372036854775807) := by
  unfold nextW at h
  cases hn : nextF b a with
  | none => rw [hn] at h; cases h
  | some y =>
    obtain ⟨p, t⟩ := y
    rw [hn] at h
    simp only at h
    cases hp : partF p with
    | none => rw [hp] at h; cases h
    | some z =>
      rw [hp] at h
      cases h
      obtain ⟨h1, h2, h3⟩ := nextF_len hn
      obtain ⟨c, e, r⟩ := partOf_rec hp
      refine ⟨h1, h3, ⟨by rw [e]; exact (nextF_bytes hn hb).drop c, by rw [e, List.length_drop]; omega⟩, r⟩
structure RdIn (b : List Nat) (L : Lg) : Prop where
  ok : LgOk L
  inn : LgIn L
  many : L.recs.length ≤ L.size
  size : L.size ≤ b.length
  live : L.live ≤ L.recs.length * 20048
theorem RdIn.redo {b : List Nat} {x : Part} {L' : Lg} {to : Nat} (h : RdIn b L) (hb : b.length ≤ 3000000) (hr : redoF L x = some L') (hx : Bytes x.rec_ ∧ x.rec_.length ≤ 20000) (h1 : L.size < to) (h2 : to ≤ b.length) : RdIn b { L' with size := to } := by
  have hsz : to ≤ 1000000000 := by omega
  have hm := h.many; have hs := h.size; have hl := h.live; have hlo := h.inn.lo; have hhi := h.inn.hi; have hage := h.ok.age
  have hmul : L.recs.length * 20048 ≤ 3000000 * 20048 := Nat.mul_le_mul_right _ (by omega)
  unfold redoF at hr
  split at hr
  · split at hr
    · rename_i hk ht
      cases hr
      have hi : x.i.toNat ≤ 2199023255552 := by
        have := ht.2.2
        by_cases hz : L.recs = []
        · have := ht.2.1 hz; omega
        · have := ht.1 hz; omega
      have ht' : L.takes (x.i.toNat : Int) 1 := by
        have h0 : 0 ≤ x.i := by
          by_cases hz : L.recs = []
          · have := ht.2.1 hz; omega
          · have := ht.1 hz; omega
        have e : ((x.i.toNat : Nat) : Int) = x.i := Int.toNat_of_nonneg h0
        rw [e]; exact ht
      have ok' := h.ok.add hi hx (by omega) (by omega)
      have in' := h.inn.add (r := x.rec_) ht'
      have hlf := longF_le (age := L.age) (i := x.i.toNat) (r := x.rec_) (by omega) (by omega)
      refine ⟨⟨ok'.age, ok'.first, ok'.recs, ok'.many, hsz, ok'.live⟩, ⟨in'.lo, in'.hi⟩, ?_, h2, ?_⟩
      · show (L.recs ++ [x.rec_]).length ≤ to
        rw [List.length_append]; show L.recs.length + 1 ≤ to; omega
      · show L.live + longF L.age x.i.toNat x.rec_ ≤ (L.recs ++ [x.rec_]).length * 20048
        rw [List.length_append]
        show _ ≤ (L.recs.length + 1) * 20048
        rw [Nat.add_mul]; omega
    · cases hr
  · split at hr
    · split at hr
      · cases hr
      · cases hr
        have hrs : ∀ r ∈ L.recs.take (x.i.toNat - L.first), Bytes r ∧ r.length ≤ 20000 := fun r hr => h.ok.recs r (List.mem_of_mem_take hr)
        have hlen : (L.recs.take (x.i.toNat - L.first)).length ≤ L.recs.length := by rw [List.length_take]; omega
        have ok' := h.ok.keep (fr := L.first) h.ok.first hrs (by omega)
        refine ⟨⟨ok'.age, ok'.first, ok'.recs, ok'.many, hsz, ok'.live⟩, ⟨hlo, by show L.first + (L.recs.take _).length ≤ _; omega⟩, by show (L.recs.take _).length ≤ to; omega, h2, ?_⟩
        exact bytesF_le (age := L.age) (i := L.first) (by omega) (by omega) hrs
    · split at hr
      · split at hr
        · cases hr
        · rename_i hc
          cases hr
          have hnx : L.next = L.first + L.recs.length := rfl
          have hrs : ∀ r ∈ L.recs.drop (x.i.toNat - L.first), Bytes r ∧ r.length ≤ 20000 := fun r hr => h.ok.recs r (List.mem_of_mem_drop hr)
          have hlen : (L.recs.drop (x.i.toNat - L.first)).length = L.recs.length - (x.i.toNat - L.first) := List.length_drop
          have ok' := h.ok.keep (fr := x.i.toNat) (by omega) hrs (by omega)
          refine ⟨⟨ok'.age, ok'.first, ok'.recs, ok'.many, hsz, ok'.live⟩, ⟨by show 1 ≤ x.i.toNat; omega, by show x.i.toNat + (L.recs.drop _).length ≤ _; omega⟩, by show (L.recs.drop _).length ≤ to; omega, h2, ?_⟩
          exact bytesF_le (age := L.age) (i := x.i.toNat) (by omega) (by omega) hrs
      · split at hr
        · split at hr
          · rename_i ht
            cases hr
            unfold Lg.begin
            by_cases hz : L.recs = []
            · have := ht.2.1 hz
              rw [if_pos hz]
              refine ⟨⟨h.ok.age, by show x.i.toNat ≤ _; omega, h.ok.recs, h.ok.many, hsz, h.ok.live⟩, ⟨by show 1 ≤ x.i.toNat; omega, by show x.i.toNat + L.recs.length ≤ _; rw [hz]; show x.i.toNat + 0 ≤ _; omega⟩, by show L.recs.length ≤ to; omega, h2, hl⟩
            · rw [if_neg hz]
              exact ⟨⟨h.ok.age, h.ok.first, h.ok.recs, h.ok.many, hsz, h.ok.live⟩, ⟨hlo, hhi⟩, by show L.recs.length ≤ to; omega, h2, hl⟩
          · cases hr
        · cases hr
theorem redoF_age {x : Part} {L' : Lg} (hr : redoF L x = some L') : L'.age = L.age ∧ L'.file = L.file := by
  unfold redoF at hr
  split at hr
  · split at hr
    · cases hr; exact ⟨L.begin_age _, L.begin_file _⟩
    · cases hr
  · split at hr
    · split at hr
      · cases hr
      · cases hr; exact ⟨rfl, rfl⟩
    · split at hr
      · split at hr
        · cases hr
        · cases hr; exact ⟨rfl, rfl⟩
      · split at hr
        · split at hr
          · cases hr; exact ⟨L.begin_age _, L.begin_file _⟩
          · cases hr
        · cases hr
end
end Go.Am
namespace Go.Am
section
variable {tab : Nat → Option PFn} {σ : S} {Q : AVal → S → Prop} {G : Nat → Prop} {l d : Pos} {L : Lg} {rv : AVal} {mr : Nat}
theorem read_loop (ht : Tab tab) (n : Nat) : ∀ (E : En) (σ : S) (G : Nat → Prop) (L : Lg) (rv : AVal) (mr w : Nat) (b : List Nat) (bv : AVal) (mb : Nat) (xb : Pos) (xc : List AVal), Ok σ → LgAt σ G l d L rv mr → RdIn b L → Bytes b → b.length ≤ 3000000 → b.length < L.size + n →
    BySl σ bv b mb → (b ≠ [] → mb ≠ l.nat ∧ mb ≠ mr ∧ mb ≠ xb.nat) → σ.blk xb = some ⟨0, .ex, xc⟩ → xc.length = 5 → xb ≠ l → xb.nat ≠ mr → w ≤ 9223372036854775807 →
    E 5 = bv → E 6 = .ptr xb 0 → E 9 = .ptr l 0 → E 10 = .int .i64 (w : Int) →
    (∀ σ' G' L' w' rv' mr', loopF b n L w = (L', w') → LgAt σ' G' l d L' rv' mr' → RdIn b L' → Keep (fun x => lM l mr x ∨ x = xb.nat) σ σ' → Gr σ G G' → (mr' = mr ∨ σ.next.nat ≤ mr') → Q (if w' = 0 then .ptr l 0 else .nptr) σ') →
    f41.L0 (WF tab) Q E σ := by
  induction n with
  | zero =>
    intro E σ G L rv mr w b bv mb xb xc ho h hin hb hbl hn
    have := hin.size; omega
  | succ n ih =>
    intro E σ G L rv mr w b bv mb xb xc ho h hin hb hbl hn hbv hmb hxb hxc hxl hxm hw h5 h6 h9 h10 hQ
    refine f41.p0_of ?_
    unfold f41.p0
    rw [h5, h6, h9, h10]
    have hsz := hin.size
    have hage := hin.ok.age
    refine Som_of rfl (Som_of (vField0 _ _ _) (Som_of (ld h.blk rfl) ?_))
    -- the way out
    have out : ∀ (E' : En) (σ' : S), Keep (fun x => lM l mr x ∨ x = xb.nat) σ σ' → LgAt σ' G l d L rv mr → loopF b (n + 1) L w = (L, w) → E' 9 = .ptr l 0 → E' 10 = .int .i64 (w : Int) → wC (WF tab) f41.c1 E' σ' (retK f41.res Q) := by
      intro E' σ' k' hL' hlf e9 e10
      refine f41.p1_of ?_
      unfold f41.p1
      rw [e9, e10]
      refine Som_of (bin_gtr _ _ _ _) ?_
      have := hQ σ' G L w rv mr hlf hL' hin k' (Gr.refl _ _) (.inl rfl)
      refine WIf_dec (fun hp => ?_) (fun hz => ?_)
      · rw [Ret_1 rfl]
        rw [if_neg (by omega)] at this; exact this
      · rw [Ret_1 rfl]
        rw [if_pos (by omega)] at this; exact this
    have hxn : ¬ xb.nat = l.nat := fun e => hxl (Pos.nat_inj e)
    refine nextw_c ht ho hbv hb (by omega) (by omega) (fun σ1 hnw k1 _ => ?_) (fun x to σ1 hnw k1 _ => ?_)
    · -- no frame
      refine Som_of rfl (Som_of rfl (Som_of rfl ?_))
      have b1 := k1.old _ _ hxb (fun h => h)
      refine Eff_of (storeN_of b1 rfl (by omega) (by omega)) ?_
      have k2 : Keep (fun x => x = xb.nat) σ1 _ := Keep.upd k1.ok b1 (c := ⟨0, .ex, xc.take 0 ++ [.int .i64 0, .int .i64 0, .int .i64 0, .int .i64 0, .str []] ++ xc.drop (0 + 5)⟩) rfl
      have h2 := (h.keep0 k1).keep k2 (fun x hx e => by
        rcases hx with hx | hx
        · exact hxn (by rw [← e, hx])
        · exact hxm (by rw [← e, hx]))
      generalize σ1.upd xb ⟨0, .ex, xc.take 0 ++ [.int .i64 0, .int .i64 0, .int .i64 0, .int .i64 0, .str []] ++ xc.drop (0 + 5)⟩ = σ2 at *
      have k3 : Keep0 σ2 (σ2.bumpT 17) := Keep.bump k2.ok 17
      refine Som_of (un_not _) ?_
      rw [show (!false) = true from rfl]
      refine Som_of rfl (Som_of rfl (Som_of rfl (Som_of rfl (Som_of rfl (Som_of rfl (Som_of rfl (Som_of rfl (Som_of rfl (Som_of rfl (GE_n rfl (Som_of rfl (Som_of rfl ?_))))))))))))
      rw [WIf_true]
      refine out _ _ (((Keep0.to k1).trans (k2.mono fun x e => .inr e)).trans (Keep0.to k3)) (h2.keep0 k3) ?_ (by simp [h9]) (by simp [h10])
      unfold loopF; simp only [hnw]
    · obtain ⟨w1, w2, w3, w4, w5, w6, w7⟩ := nextW_ok hnw hb
      obtain ⟨kind, age, i, nn, rec_⟩ := x
      refine Som_of rfl (Som_of rfl (Som_of rfl ?_))
      have b1 := k1.old _ _ hxb (fun h => h)
      refine Eff_of (storeN_of (xs := [.int .i64 kind, .int .i64 age, .int .i64 i, .int .i64 nn, .str rec_]) b1 rfl (by omega) (by omega)) ?_
      have ecs : xc.take 0 ++ [.int .i64 kind, .int .i64 age, .int .i64 i, .int .i64 nn, .str rec_] ++ xc.drop (0 + 5) = [.int .i64 kind, .int .i64 age, .int .i64 i, .int .i64 nn, .str rec_] := by
        rw [List.take_zero, List.nil_append, List.drop_of_length_le (by omega), List.append_nil]
      rw [ecs]
      have k2 : Keep (fun x => x = xb.nat) σ1 _ := Keep.upd k1.ok b1 (c := ⟨0, .ex, [.int .i64 kind, .int .i64 age, .int .i64 i, .int .i64 nn, .str rec_]⟩) rfl
      have b2 : (σ1.upd xb ⟨0, .ex, [.int .i64 kind, .int .i64 age, .int .i64 i, .int .i64 nn, .str rec_]⟩).blk xb = some ⟨0, .ex, [.int .i64 kind, .int .i64 age, .int .i64 i, .int .i64 nn, .str rec_]⟩ := blk_upd_same _ _
      have h2 := (h.keep0 k1).keep k2 (fun x hx e => by
        rcases hx with hx | hx
        · exact hxn (by rw [← e, hx])
        · exact hxm (by rw [← e, hx]))
      have bv2 : BySl (σ1.upd xb ⟨0, .ex, [.int .i64 kind, .int .i64 age, .int .i64 i, .int .i64 nn, .str rec_]⟩) bv b mb := (hbv.keep (fun _ h => h) k1).keep (fun hz e => (hmb (ne_nil_of hz)).2.2 e) k2
      generalize σ1.upd xb ⟨0, .ex, [.int .i64 kind, .int .i64 age, .int .i64 i, .int .i64 nn, .str rec_]⟩ = σ2 at *
      have k3 : Keep0 σ2 (σ2.bumpT 17) := Keep.bump k2.ok 17
      have h3 := h2.keep0 k3
      have b3 := k3.old _ _ b2 (fun h => h)
      have bv3 := bv2.keep (M := fun _ => False) (fun _ h => h) k3
      have k03 : Keep (fun x => lM l mr x ∨ x = xb.nat) σ (σ2.bumpT 17) := ((Keep0.to k1).trans (k2.mono fun x e => .inr e)).trans (Keep0.to k3)
      refine Som_of (un_not _) ?_
      rw [show (!true) = false from rfl]
      refine Sq_of rfl (vField0 _ _ _) (Sq_of rfl (ld b3 rfl) (Som_of rfl (Sq_of rfl rfl (Sq_of rfl (vField0 _ _ _) (Sq_of rfl (ld h3.blk rfl) (Sq_of rfl (bin_neq _ _ _ _) (Som_of rfl ?_)))))))
      by_cases hag : age = L.age
      · rw [decide_eq_false (show ¬ age ≠ (L.age : Int) by omega)]
        refine Som_of rfl (Sq_of rfl (ldN (n := 5) b3 (by simp) rfl) (GE_t rfl ?_))
        have hin1 := hin.inn.hi
        have hmany := hin.many
        refine redo_c (x := ⟨kind, age, i, nn, rec_⟩) ht k3.ok h3 hin.ok w6 w3 (by omega) hin1 (fun σ4 hrd k4 => ?_) (fun L' σ4 G' rv' mr' hrd h4 k4 g4 l4 => ?_)
        · refine Sq_of rfl (un_not _) (Som_of rfl ?_)
          rw [show (!false) = true from rfl, WIf_true]
          refine out _ _ (k03.trans (Keep0.to k4)) (h3.keep0 k4) ?_ (by simp [h9]) (by simp [h10])
          unfold loopF; simp only [hnw]; rw [if_pos hag]; simp only [hrd]
        · refine Sq_of rfl (un_not _) (Som_of rfl ?_)
          rw [show (!true) = false from rfl, WIf_false]
          have n3 := k03.next
          have hgx : ¬ lM l mr xb.nat := fun e => by
            rcases e with e | e
            · exact hxn e
            · exact hxm e
          have b4 := k4.old _ _ b3 hgx
          have bv4 := bv3.keep (fun hz e => by
            have hh := hmb (ne_nil_of hz)
            rcases e with e | e
            · exact hh.1 e
            · exact hh.2.1 e) k4
          refine Som_of rfl (Som_of (vField0 _ _ _) (Eff_of (store1_of h4.blk (by simp) rfl) ?_))
          obtain ⟨h5, k5⟩ := h4.set k4.ok { L' with size := to } rfl (cs := _) rfl
          have e5 : ([AVal.ptr d 0, .int .i64 (L'.file : Int), .int .i64 (L'.age : Int), .int .i64 (L'.first : Int), rv', .int .i64 (L'.size : Int), .int .i64 (L'.live : Int)].set (0 + 5) (.int .i64 (to : Int))) = [.ptr d 0, .int .i64 (L'.file : Int), .int .i64 (L'.age : Int), .int .i64 (L'.first : Int), rv', .int .i64 (to : Int), .int .i64 (L'.live : Int)] := rfl
          rw [e5]
          have h5' : LgAt (σ4.upd l ⟨0, .ex, [.ptr d 0, .int .i64 (L'.file : Int), .int .i64 (L'.age : Int), .int .i64 (L'.first : Int), rv', .int .i64 (to : Int), .int .i64 (L'.live : Int)]⟩) G' l d { L' with size := to } rv' mr' := h5
          have k5' : Keep (fun x => x = l.nat) σ4 (σ4.upd l ⟨0, .ex, [.ptr d 0, .int .i64 (L'.file : Int), .int .i64 (L'.age : Int), .int .i64 (L'.first : Int), rv', .int .i64 (to : Int), .int .i64 (L'.live : Int)]⟩) := k5
          clear h5 k5
          generalize σ4.upd l ⟨0, .ex, [.ptr d 0, .int .i64 (L'.file : Int), .int .i64 (L'.age : Int), .int .i64 (L'.first : Int), rv', .int .i64 (to : Int), .int .i64 (L'.live : Int)]⟩ = σ5 at *
          have b5 := k5'.old _ _ b4 hxn
          have bv5 := bv4.keep (M := fun x => x = l.nat) (fun hz e => (hmb (ne_nil_of hz)).1 e) k5'
          have hrin := hin.redo hbl hrd w3 w2 w1
          have k05 : Keep (fun x => lM l mr x ∨ x = xb.nat) σ σ5 := (k03.trans (k4.mono fun x e => .inl e)).trans (k5'.mono fun x e => .inl (.inl e))
          have hmr' : mr' = mr ∨ σ.next.nat ≤ mr' := by omega
          have hxlt := ho.lt hxb
          have hxm' : xb.nat ≠ mr' := by rcases hmr' with e | e <;> omega
          have hmb' : b ≠ [] → mb ≠ l.nat ∧ mb ≠ mr' ∧ mb ≠ xb.nat := fun hne => by
            have hh := hmb hne
            have hlt : mb < σ.next.nat := SlAt.own_lt hbv ho (by rw [Nat.mul_one]; exact fun e => hne (List.eq_nil_of_length_eq_zero e))
            refine ⟨hh.1, ?_, hh.2.2⟩
            rcases hmr' with e | e
            · rw [e]; exact hh.2.1
            · omega
          have gr0 : Gr σ G G' := ⟨g4.1, fun x hx hg => g4.2 x (by omega) hg⟩
          -- what is left to come
          have fin : ∀ (E' : En) (w' : Nat), w' ≤ 9223372036854775807 → (if kind = 1 ∧ 0 < w then w - 1 else w) = w' → E' 5 = bv → E' 6 = .ptr xb 0 → E' 9 = .ptr l 0 → E' 10 = .int .i64 (w' : Int) → f41.L0 (WF tab) Q E' σ5 := by
            intro E' w' hw' hww e5 e6 e9 e10
            have hsz' : ({ L' with size := to } : Lg).size = to := rfl
            refine ih E' σ5 G' { L' with size := to } rv' mr' w' b bv mb xb _ k5'.ok h5' hrin hb hbl (by rw [hsz']; omega) bv5 hmb' b5 rfl hxl hxm' hw' e5 e6 e9 e10 ?_
            intro σ' G2 L2 w2 rv2 mr2 hlf hL2 hin2 k2' g2 l2
            have n5 := k05.next
            have hlf0 : loopF b (n + 1) L w = (L2, w2) := by
              unfold loopF
              simp only [hnw]
              rw [if_pos hag]
              simp only [hrd]
              rw [hww]; exact hlf
            refine hQ σ' G2 L2 w2 rv2 mr2 hlf0 hL2 hin2 ?_ ⟨fun x hx => g2.1 x (gr0.1 x hx), fun x hx hg => gr0.2 x hx (g2.2 x (by omega) hg)⟩ (by omega)
            refine k05.then ho k2' fun x hx e => ?_
            rcases e with e | e
            · rcases e with e | e
              · exact .inl (.inl e)
              · rcases hmr' with e' | e'
                · exact .inl (.inr (by rw [e, e']))
                · omega
            · exact .inr e
          refine Som_of (vField0 _ _ _) (Som_of (ld b5 rfl) (Som_of (bin_eql _ _ _ _) ?_))
          refine and_step (fun _ => bin_gtr _ _ _ _) (fun hy t1 t2 t3 => ?_) (fun hy t1 t2 t3 => ?_)
          · refine Som_of (bin_sub _ _ _ _) ?_
            rw [wrap_i64_in (n := (w : Int) - 1) (by omega) (by omega), show (w : Int) - 1 = ((w - 1 : Nat) : Int) by omega]
            exact fin _ (w - 1) (by omega) (if_pos ⟨hy.1, by omega⟩) (by simp [h5]) (by simp [h6]) (by simp [h9]) (by simp)
          · refine fin _ w hw (if_neg fun hh => hy ⟨hh.1, by omega⟩) (by simp [h5]) (by simp [h6]) (by simp [h9]) (by simp [h10])
      · rw [decide_eq_true (show age ≠ (L.age : Int) from hag)]
        refine Som_of rfl (Som_of rfl (GE_n rfl (Som_of rfl (Som_of rfl ?_))))
        rw [WIf_true]
        refine out _ _ k03 h3 ?_ (by simp [h9]) (by simp [h10])
        unfold loopF; simp only [hnw]; rw [if_neg hag]
end
end Go.Am
