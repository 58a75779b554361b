/-
  What the functions do, as conditions over the evaluator. Conditions: none.
-/
import Derived.Test.YtkgjghlklniaeaaC2
namespace Go.Am
section
variable {tab : Nat → Option PFn} {σ : S} {Q : AVal → S → Prop} {G M : Nat → Prop} {l d : Pos} {L : Lg} {D : Dk} {rv : AVal} {mr : Nat}
def keepN (L : Lg) (f : Nat) : Nat := if f = L.file then L.size else 0
def trim (L : Lg) : Nat → Nat → Dk → Bool × Dk
  | 0, _, D => (true, D)
  | n + 1, f, D => if keepN L f < (D.file f).length then (if D.count.off = true then (false, D.count) else trim L n (f + 1) (D.count.cutF f (keepN L f))) else trim L n (f + 1) D
theorem open_trim (ht : Tab tab) (n : Nat) : ∀ (E : En) (σ : S) (G M : Nat → Prop) (D : Dk) (f : Nat), Ok σ → WL σ G l d L D rv mr M → LgOk L → DkOk D → D.wait.length + n < 1000000000 → 8 ≤ f → f + n = 48 → E 0 = .ptr d 0 → E 4 = .ptr l 0 → E 8 = .int .i64 (f : Int) →
    (∀ D', trim L n f D = (false, D') → ∀ σ' G' M', WL σ' G' l d L D' rv mr M' → Rel3 σ G M σ' G' M' → Q (.tup [.nptr, .int .i64 11]) σ') →
    (∀ D', trim L n f D = (true, D') → DkOk D' → D'.wait.length ≤ D.wait.length + n → ∀ E' σ' G' M', WL σ' G' l d L D' rv mr M' → Rel3 σ G M σ' G' M' → E' 0 = .ptr d 0 → E' 4 = .ptr l 0 → f12.J4 (WF tab) Q E' σ') →
    f12.L2 (WF tab) Q E σ := by
  induction n with
  | zero =>
    intro E σ G M D f ho h hok hdk hwn hf8 hf h0 h4 h8 hB hK
    refine f12.p2_of ?_
    unfold f12.p2
    rw [h8]
    refine Som_of (bin_leq _ _ _ _) (WIf_f (by omega) ?_)
    exact hK D rfl hdk (by omega) _ σ G M h (Rel3.refl ho G M) (by simp [h0]) (by simp [h4])
  | succ n ih =>
    intro E σ G M D f ho h hok hdk hwn hf8 hf h0 h4 h8 hB hK
    refine f12.p2_of ?_
    unfold f12.p2
    rw [h8, h4]
    refine Som_of (bin_leq _ _ _ _) (WIf_t (by omega) ?_)
    refine Som_of rfl (Som_of (vField0 _ _ _) (Som_of (ld h.lg.blk rfl) (Som_of (bin_eql _ _ _ _) ?_)))
    have main : ∀ E' : En, E' 0 = .ptr d 0 → E' 4 = .ptr l 0 → E' 8 = .int .i64 (f : Int) → E' 9 = .int .i64 (keepN L f : Int) → f12.J3 (WF tab) Q E' σ := by
      intro E' e0 e4 e8 e9
      refine f12.p3_of ?_
      unfold f12.p3
      rw [e0, e8, e9]
      have hd := h
      obtain ⟨pf, ps, fv, sv, wv, wc, mw, hd, _⟩ := hd
      refine size_c ht hd.dk (by omega) fun bs hbs => ?_
      have hfb := D.file_at hbs
      have hbl := hdk.fl bs (List.mem_of_getElem? hbs)
      refine Som_of (bin_gtr _ _ _ _) ?_
      have ef : IntKind.i64.wrap ((f : Int) + 1) = ((f + 1 : Nat) : Int) := by
        rw [wrap_i64_in (n := (f : Int) + 1) (by omega) (by omega)]; omega
      by_cases hgt : keepN L f < bs.length
      · have htr : trim L (n + 1) f D = if D.count.off = true then (false, D.count) else trim L n (f + 1) (D.count.cutF f (keepN L f)) := by
          show (if keepN L f < (D.file f).length then _ else _) = _
          rw [hfb, if_pos hgt]
        rw [decide_eq_true (show (keepN L f : Int) < (bs.length : Int) by omega)]
        refine Sq_of rfl rfl (Sq_of rfl rfl (Sq_of rfl rfl (GE_t rfl ?_)))
        refine wcut_c ht ho h hdk (by omega) (by omega) (by rw [hfb]; omega) (fun σ' M' ho' hw r => ?_) (fun σ' G' M' ho' hw r => ?_)
        · refine Sq_of rfl (bin_neq _ _ _ _) (Som_of rfl (WIf_t (by omega) ?_))
          rw [Ret_2 rfl rfl]
          exact hB D.count (by rw [htr, if_pos ho']) σ' G M' hw r
        · refine Sq_of rfl (bin_neq _ _ _ _) (Som_of rfl (WIf_f (by omega) ?_))
          refine Som_of (bin_add _ _ _ _) ?_
          rw [ef]
          have hdk' : DkOk (D.count.cutF f (keepN L f)) := by
            have hcf : D.count.file f = D.file f := by unfold Dk.count; split; rfl; split <;> rfl
            refine hdk.count.cutF (by omega) (by rw [hcf, hfb]; omega) (by rw [hcf, hfb]; exact hbl) (by rw [Dk.count_wait]; omega)
          have hwl : (D.count.cutF f (keepN L f)).wait.length = D.wait.length + 1 := by
            show (D.count.wait ++ [_]).length = _
            rw [List.length_append, Dk.count_wait]; rfl
          refine ih _ σ' G' M' _ (f + 1) r.k.ok hw hok hdk' (by omega) (by omega) (by omega) (by simp [e0]) (by simp [e4]) (by simp) (fun D' hD σ2 G2 M2 hw2 r2 => ?_) (fun D' hD hdk2 hwl2 E2 σ2 G2 M2 hw2 r2 g0 g4 => ?_)
          · exact hB D' (by rw [htr, if_neg (by rw [ho']; exact Bool.false_ne_true)]; exact hD) σ2 G2 M2 hw2 (r.trans ho r2)
          · exact hK D' (by rw [htr, if_neg (by rw [ho']; exact Bool.false_ne_true)]; exact hD) hdk2 (by omega) E2 σ2 G2 M2 hw2 (r.trans ho r2) g0 g4
      · have htr : trim L (n + 1) f D = trim L n (f + 1) D := by
          show (if keepN L f < (D.file f).length then _ else _) = _
          rw [hfb, if_neg hgt]
        rw [decide_eq_false (show ¬ (keepN L f : Int) < (bs.length : Int) by omega)]
        refine Som_of rfl (Som_of rfl (Som_of rfl (GE_n rfl (Som_of rfl (Som_of rfl ?_)))))
        rw [WIf_false]
        refine Som_of (bin_add _ _ _ _) ?_
        rw [ef]
        refine ih _ σ G M D (f + 1) ho h hok hdk (by omega) (by omega) (by omega) (by simp [e0]) (by simp [e4]) (by simp) (fun D' hD σ2 G2 M2 hw2 r2 => hB D' (by rw [htr]; exact hD) σ2 G2 M2 hw2 r2) (fun D' hD hdk2 hwl2 E2 σ2 G2 M2 hw2 r2 g0 g4 => hK D' (by rw [htr]; exact hD) hdk2 (by omega) E2 σ2 G2 M2 hw2 r2 g0 g4)
    refine WIf_dec (fun he => ?_) (fun hne => ?_)
    · refine Som_of rfl (Som_of (vField0 _ _ _) (Som_of (ld h.lg.blk rfl) ?_))
      refine main _ (by simp [h0]) (by simp [h4]) (by simp [h8]) ?_
      unfold keepN; rw [if_pos (by omega)]; simp
    · refine main _ (by simp [h0]) (by simp [h4]) (by simp [h8]) ?_
      unfold keepN; rw [if_neg (by omega)]; simp
end
end Go.Am
namespace Go.Am
section
variable {tab : Nat → Option PFn} {σ : S} {Q : AVal → S → Prop} {G M : Nat → Prop} {l d : Pos} {L : Lg} {D : Dk} {rv : AVal} {mr : Nat}
noncomputable def openL (D : Dk) : Lg := pickL (pickL Lg.none (readF (D.file 8) 8)) (readF (D.file 9) 9)
inductive OpenE (D : Dk) : Dk → Prop
  | trim {D' : Dk} : trim (openL D) 40 8 D = (false, D') → OpenE D D'
  | sync {D1 : Dk} : trim (openL D) 40 8 D = (true, D1) → D1.count.off = true → OpenE D D1.count
  | anew {D1 D' : Dk} {L' : Lg} : trim (openL D) 40 8 D = (true, D1) → D1.count.off = false → 2 * (openL D).live + 4096 < (openL D).size → AnewOut (openL D) D1.count.sync (openL D).first (openL D).recs 11 L' D' → OpenE D D'
inductive OpenS (D : Dk) : Lg → Dk → Prop
  | same {D1 : Dk} : trim (openL D) 40 8 D = (true, D1) → D1.count.off = false → ¬ 2 * (openL D).live + 4096 < (openL D).size → OpenS D (openL D) D1.count.sync
  | anew {D1 D' : Dk} {L' : Lg} {e : Int} : trim (openL D) 40 8 D = (true, D1) → D1.count.off = false → 2 * (openL D).live + 4096 < (openL D).size → AnewOut (openL D) D1.count.sync (openL D).first (openL D).recs e L' D' → e ≠ 11 → OpenS D L' D'
theorem made2i (a b : Int) (z : AVal) : aSliceV 1 [z] 2 [(0, 1, .int .i64 a), (1, 1, .int .i64 b)] = some (⟨1, .ex, [.int .i64 a, .int .i64 b]⟩, fun p => .sl p 0 2 2) := rfl
theorem made2_sl (a b : AVal) : SlAt (σ.new ⟨1, .ex, [a, b]⟩) (.sl σ.next 0 2 2) 1 2 [a, b] σ.next.nat := by
  refine ⟨rfl, rfl, Nat.le_refl _, fun _ => ⟨⟨1, .ex, [a, b]⟩, by rw [blk_new, if_pos rfl]; rfl, rfl, ?_, rfl⟩⟩
  show 0 + 2 * 1 ≤ 2; omega
theorem open_end (ht : Tab tab) {E : En} (ho : Ok σ) (h : WL σ G l d L D rv mr M) (hst : LgSt 0 L) (hdk : DkOk D) (h0 : E 0 = .ptr d 0) (h4 : E 4 = .ptr l 0)
    (hO : D.count.off = true → Then σ G M l d L D.count (Q (.tup [.nptr, .int .i64 11])))
    (hE : D.count.off = false → 2 * L.live + 4096 < L.size → ∀ L' D', AnewOut L D.count.sync L.first L.recs 11 L' D' → Then σ G M l d L' D' (Q (.tup [.nptr, .int .i64 11])))
    (hA : D.count.off = false → 2 * L.live + 4096 < L.size → ∀ e L' D', AnewOut L D.count.sync L.first L.recs e L' D' → e ≠ 11 → Then σ G M l d L' D' (Q (.tup [.ptr l 0, .int .i64 0])))
    (hS : D.count.off = false → ¬ 2 * L.live + 4096 < L.size → Then σ G M l d L D.count.sync (Q (.tup [.ptr l 0, .int .i64 0]))) : f12.J4 (WF tab) Q E σ := by
  refine f12.p4_of ?_
  unfold f12.p4
  rw [h0, h4]
  refine wsync_c ht ho h hdk (fun σ' M' hoff hw r => ?_) (fun σ' M' hoff hw r => ?_)
  · refine Som_of (bin_neq _ _ _ _) (WIf_t (by omega) ?_)
    rw [Ret_2 rfl rfl]
    exact Then.go (hO hoff) hw r
  · refine Som_of (bin_neq _ _ _ _) (WIf_f (by omega) ?_)
    have k1 : Keep0 σ' (σ'.bumpT 24) := Keep.bump r.k.ok 24
    have h1 := hw.keep0 k1
    have r1 : Rel3 σ G M (σ'.bumpT 24) G M' := r.trans ho (Rel3.keep0 k1 G M')
    have hl := hst.ok.live; have hs := hst.ok.size
    have hm := hst.many; have hsz := hst.size
    refine Som_of rfl (Som_of (vField0 _ _ _) (Som_of (ld h1.lg.blk rfl) (Som_of rfl (Som_of (vField0 _ _ _) (Som_of (ld h1.lg.blk rfl) (Som_of (bin_mul _ _ _ _) (Som_of (bin_add _ _ _ _) (Som_of (bin_gtr _ _ _ _) ?_))))))))
    rw [wrap_i64_in (n := (2 : Int) * (L.live : Int)) (by omega) (by omega), wrap_i64_in (n := (2 : Int) * (L.live : Int) + 4096) (by omega) (by omega)]
    by_cases hgt : 2 * L.live + 4096 < L.size
    · rw [decide_eq_true (show (2 : Int) * (L.live : Int) + 4096 < (L.size : Int) by omega)]
      refine Sq_of rfl rfl (Sq_of rfl rfl (Sq_of rfl rfl (Sq_of rfl (vField0 _ _ _) (Sq_of rfl (ld h1.lg.blk rfl) (Sq_of rfl rfl (Sq_of rfl rfl (Sq_of rfl (vField0 _ _ _) (Sq_of rfl (ld h1.lg.blk rfl) (GE_t rfl ?_)))))))))
      have hage := hst.age; have hfi := hst.inn.hi
      refine anew_o ht k1.ok h1 hst.ok hdk.count.sync (by show 0 + 10 < _; omega) hst.file h1.lg.rg.sl (fun _ => rfl) hst.ok.recs (by omega) (by omega) (by omega) fun e L' D' hout => ?_
      intro σ2 G2 M2 rv2 mr2 hw2 a b c
      refine Sq_of rfl (bin_eql _ _ _ _) (Som_of rfl ?_)
      refine WIf_dec (fun he => ?_) (fun hne => ?_)
      · rw [Ret_2 rfl rfl]
        subst he
        exact Then.go (hE hoff hgt _ _ hout) hw2 (r1.trans ho ⟨a, b, c⟩)
      · rw [Ret_2 rfl rfl]
        exact Then.go (hA hoff hgt _ _ _ hout hne) hw2 (r1.trans ho ⟨a, b, c⟩)
    · rw [decide_eq_false (show ¬ (2 : Int) * (L.live : Int) + 4096 < (L.size : Int) by omega)]
      refine Som_of rfl (Som_of rfl (Som_of rfl (Som_of rfl (Som_of rfl (Som_of rfl (Som_of rfl (Som_of rfl (Som_of rfl (GE_n rfl (Som_of rfl (Som_of rfl ?_)))))))))))
      rw [WIf_false, Ret_2 rfl rfl]
      exact Then.go (hS hoff hgt) h1 r1
theorem open_o (ht : Tab tab) {pf ps : Pos} {fv sv wc : List AVal} {wv : AVal} {mw : Nat} (ho : Ok σ) (h : DkAt σ G d D pf ps fv sv wv wc mw) (hdk : DkOk D) (hwn : D.wait.length + 100 < 1000000000)
    (hOff : D.off = true → Q (.tup [.nptr, .int .i64 11]) σ)
    (hE : ∀ D' L' l σ' G' M' rv mr, OpenE D D' → WL σ' G' l d L' D' rv mr M' → Rel3 σ G (dM d pf ps mw) σ' G' M' → σ.next.nat ≤ l.nat → Q (.tup [.nptr, .int .i64 11]) σ')
    (hS : ∀ D' L' l σ' G' M' rv mr, OpenS D L' D' → LgSt 0 (openL D) → WL σ' G' l d L' D' rv mr M' → Rel3 σ G (dM d pf ps mw) σ' G' M' → σ.next.nat ≤ l.nat → Q (.tup [.ptr l 0, .int .i64 0]) σ') : WF tab 12 [.ptr d 0] σ Q := by
  refine f12_wf ht.t12 ?_
  unfold f12
  refine Som_of (v := .bool false) rfl ?_
  rw [WIf_false]
  refine off_c ht h ?_
  cases hoff : D.off with
  | true => rw [WIf_true, Ret_2 rfl rfl]; exact hOff hoff
  | false =>
  rw [WIf_false]
  have hbd : vBuild [AVal.nptr, .int .i64 0, .int .i64 0, .int .i64 0, .nsl, .int .i64 0, .int .i64 0] [(0, 1, .ptr d 0), (1, 1, .int .i64 8), (3, 1, .int .i64 1)] =
    some (.agg [.ptr d 0, .int .i64 8, .int .i64 0, .int .i64 1, .nsl, .int .i64 0, .int .i64 0]) := rfl
  refine Som_of hbd (Ala_of rfl ?_)
  have k1 : Keep0 σ (σ.new ⟨0, .ex, [.ptr d 0, .int .i64 8, .int .i64 0, .int .i64 1, .nsl, .int .i64 0, .int .i64 0]⟩) := Keep.new ho _
  have b1 : (σ.new ⟨0, .ex, [.ptr d 0, .int .i64 8, .int .i64 0, .int .i64 1, .nsl, .int .i64 0, .int .i64 0]⟩).blk σ.next = some ⟨0, .ex, [.ptr d 0, .int .i64 8, .int .i64 0, .int .i64 1, .nsl, .int .i64 0, .int .i64 0]⟩ := by rw [blk_new, if_pos rfl]; rfl
  have n1 := new_next (σ := σ) ⟨0, .ex, [.ptr d 0, .int .i64 8, .int .i64 0, .int .i64 1, .nsl, .int .i64 0, .int .i64 0]⟩
  generalize σ.new ⟨0, .ex, [.ptr d 0, .int .i64 8, .int .i64 0, .int .i64 1, .nsl, .int .i64 0, .int .i64 0]⟩ = σ1 at *
  refine Ala_of (made2i 8 9 _) ?_
  have k2 : Keep0 σ1 (σ1.new ⟨1, .ex, [.int .i64 8, .int .i64 9]⟩) := Keep.new k1.ok _
  have s2 := made2_sl (σ := σ1) (.int .i64 8) (.int .i64 9)
  have n2 := new_next (σ := σ1) ⟨1, .ex, [.int .i64 8, .int .i64 9]⟩
  generalize σ1.new ⟨1, .ex, [.int .i64 8, .int .i64 9]⟩ = σ2 at *
  have k02 := k1.trans k2
  have b2 := k2.old _ _ b1 (fun h => h)
  refine Som_of s2.len ?_
  have g1 : Gr σ G (fun x => G x ∨ x = σ.next.nat ∨ x = σ1.next.nat) := ⟨fun x hx => .inl hx, fun x hx hg => by
    rcases hg with hg | hg | hg
    · exact hg
    · omega
    · omega⟩
  have gl2 : ∀ x, (G x ∨ x = σ.next.nat ∨ x = σ1.next.nat) → x < σ2.next.nat := fun x hx => by
    rcases hx with hx | hx | hx
    · have := h.gl x hx; omega
    · omega
    · omega
  have hdM : ∀ x, dM d pf ps mw x → x < σ.next.nat := fun x hd => by
    rcases hd with hd | hd | hd | hd
    · rw [hd]; exact h.gl _ h.g1
    · rw [hd]; exact h.gl _ h.g2
    · rw [hd]; exact h.gl _ h.g3
    · rw [hd]; exact h.gl _ h.g4
  have hW : WlAt σ2 (fun x => G x ∨ x = σ.next.nat ∨ x = σ1.next.nat) σ.next d Lg.none D .nsl σ1.next.nat pf ps fv sv wv wc mw :=
    ⟨⟨b2, GrAt.nil _ 1 _, by omega, .inr (.inl rfl), .inr (.inr rfl), gl2⟩, h.move ho k02 (fun _ h => h.elim) (fun _ _ h => h.elim) g1 gl2, fun x hx hd => by
      have := hdM x hd
      rcases hx with hx | hx <;> omega⟩
  refine open_step0 ht k2.ok hW LgSt.none hdk hoff (i := 0) (by omega) s2 (by simp) (by simp) (by simp) (by simp) (by simp) fun E3 σ3 G3 l3 L3 rv3 mr3 e3 hW3 st3 k3 g3 d3 a0 a4 a17 a18 a19 => ?_
  have s3 := s2.keep (M := fun _ => False) (fun _ h => h) k3
  refine open_step0 ht k3.ok hW3 st3 hdk hoff (i := 1) (by omega) s3 a0 a4 a17 a18 a19 fun E4 σ4 G4 l4 L4 rv4 mr4 e4 hW4 st4 k4 g4 d4 c0 c4 c17 c18 c19 => ?_
  refine f12.p0_of ?_
  unfold f12.p0
  rw [c19, c18]
  refine Som_of (bin_lss _ _ _ _) (WIf_f (by omega) ?_)
  refine f12.p1_of ?_
  unfold f12.p1
  have n3 := k3.next; have n4 := k4.next
  have hLo : L4 = openL D := by rw [e4, e3]; rfl
  have k24 := k3.trans k4
  have k04 : Keep0 σ σ4 := k02.trans k24
  have hl4 : σ.next.nat ≤ l4.nat ∧ σ.next.nat ≤ mr4 := by
    rcases d4 with ⟨q1, q2⟩ | ⟨q1, q2⟩
    · rw [q1, q2]
      rcases d3 with ⟨q3, q4⟩ | ⟨q3, q4⟩
      · rw [q3, q4]; omega
      · omega
    · omega
  have g04 : Gr σ G G4 := ⟨fun x hx => g4.1 x (g3.1 x (g1.1 x hx)), fun x hx hg => g1.2 x hx (g3.2 x (by omega) (g4.2 x (by omega) hg))⟩
  have r4 : Rel3 σ G (dM d pf ps mw) σ4 G4 (wM l4 mr4 d pf ps mw) := ⟨Keep0.to k04, g04, fun x hx => by
    rcases hx with hx | hx
    · right
      rcases hx with hx | hx <;> omega
    · exact .inl hx⟩
  have hWL : WL σ4 G4 l4 d L4 D rv4 mr4 (wM l4 mr4 d pf ps mw) := ⟨pf, ps, fv, sv, wv, wc, mw, hW4, rfl⟩
  subst hLo
  refine open_trim ht 40 _ σ4 G4 _ D 8 k4.ok hWL st4.ok hdk (by omega) (by omega) (by omega) (by simp [c0]) (by simp [c4]) (by simp) (fun D' htr σ5 G5 M5 hw5 r5 => ?_) (fun D1 htr hdk1 hwl1 E5 σ5 G5 M5 hw5 r5 f0 f4 => ?_)
  · exact hE D' _ l4 σ5 G5 M5 rv4 mr4 (.trim htr) hw5 (r4.trans ho r5) hl4.1
  · have r45 := r4.trans ho r5
    refine open_end ht r5.k.ok hw5 st4 hdk1 f0 f4 (fun hc => ?_) (fun hc hgt L' D' hout => ?_) (fun hc hgt e L' D' hout hne => ?_) (fun hc hgt => ?_)
    · intro σ6 G6 M6 rv6 mr6 hw6 a b c
      exact hE _ _ l4 σ6 G6 M6 rv6 mr6 (.sync htr hc) hw6 (r45.trans ho ⟨a, b, c⟩) hl4.1
    · intro σ6 G6 M6 rv6 mr6 hw6 a b c
      exact hE _ _ l4 σ6 G6 M6 rv6 mr6 (.anew htr hc hgt hout) hw6 (r45.trans ho ⟨a, b, c⟩) hl4.1
    · intro σ6 G6 M6 rv6 mr6 hw6 a b c
      exact hS _ _ l4 σ6 G6 M6 rv6 mr6 (.anew htr hc hgt hout hne) st4 hw6 (r45.trans ho ⟨a, b, c⟩) hl4.1
    · intro σ6 G6 M6 rv6 mr6 hw6 a b c
      exact hS _ _ l4 σ6 G6 M6 rv6 mr6 (.same htr hc hgt) st4 hw6 (r45.trans ho ⟨a, b, c⟩) hl4.1
end
end Go.Am
namespace Go.Am
section
variable {L : Lg} {D : Dk}
structure DkSt (w : Nat) (D : Dk) : Prop where
  ok : DkOk D
  wn : D.wait.length ≤ w
theorem DkSt.mono {w w' : Nat} (h : DkSt w D) (hw : w ≤ w') : DkSt w' D := ⟨h.ok, Nat.le_trans h.wn hw⟩
theorem DkSt.count {w : Nat} (h : DkSt w D) : DkSt w D.count := ⟨h.ok.count, by rw [Dk.count_wait]; exact h.wn⟩
theorem DkSt.sync {w : Nat} (h : DkSt w D) : DkSt 0 D.sync := ⟨h.ok.sync, Nat.le_refl 0⟩
theorem DkSt.write {w k a : Nat} {p : List Nat} (h : DkSt w D) (hk : k < 64) (ha : a ≤ 1048576) (hr : D.room k a p.length) (hp : Bytes p) (hw : w < 1000000000) : DkSt (w + 1) (D.write k a p) :=
  ⟨h.ok.write hk ha hr (D.file_held k) hp (by have := h.wn; omega), by
    show (D.wait ++ [_]).length ≤ _
    rw [List.length_append]; have := h.wn; show D.wait.length + 1 ≤ _; omega⟩
theorem DkSt.cutF {w k n : Nat} (h : DkSt w D) (hk : k < 64) (hn : n ≤ (D.file k).length) (hw : w < 1000000000) : DkSt (w + 1) (D.cutF k n) :=
  ⟨h.ok.cutF hk hn (Dk.file_ok h.ok k) (by have := h.wn; omega), by
    show (D.wait ++ [_]).length ≤ _
    rw [List.length_append]; have := h.wn; show D.wait.length + 1 ≤ _; omega⟩
theorem LgSt.mono {a b : Nat} (h : LgSt a L) (hab : a ≤ b) : LgSt b L := ⟨h.ok, h.inn, by have := h.many; omega, h.size, h.live, h.file, by have := h.age; omega⟩
theorem AnewOut.st {a w fr : Nat} {rs : List (List Nat)} {e : Int} {L' : Lg} {D' : Dk} (h : AnewOut L D fr rs e L' D') (hst : LgSt a L) (hd : DkSt w D) (hw : w + 10 < 1000000000) (ha : a ≤ 6700000) (hf : 1 ≤ fr) (hfi : fr + rs.length ≤ 1099511627777)
    (hrs : ∀ r ∈ rs, Bytes r ∧ r.length ≤ 20000) (hrl : rs.length ≤ 3200000 + (a + 1)) : LgSt (a + 1) L' ∧ DkSt (w + 4) D' := by
  have hage := hst.age; have hfile := hst.file
  have h1 : D.count.room (17 - L.file) 0 (anewB (L.age + 1) fr rs).length → DkSt (w + 1) (D.an1 L fr rs) := fun hr => (hd.count.write (by omega) (by omega) hr (anewB_bytes hrs) (by omega)).count
  have h2 : D.count.room (17 - L.file) 0 (anewB (L.age + 1) fr rs).length → DkSt 0 (D.an2 L fr rs) := fun hr => (h1 hr).sync.count
  have h3 : D.count.room (17 - L.file) 0 (anewB (L.age + 1) fr rs).length → DkSt 1 (D.an3 L fr rs) := fun hr => ((h2 hr).cutF (by omega) (Nat.zero_le _) (by omega)).count
  cases h with
  | off1 _ => exact ⟨hst.mono (by omega), hd.count.mono (by omega)⟩
  | full _ _ => exact ⟨hst.mono (by omega), hd.count.mono (by omega)⟩
  | off2 _ hr _ => exact ⟨hst.mono (by omega), (h1 hr).mono (by omega)⟩
  | off3 _ hr _ _ => exact ⟨hst.mono (by omega), (h2 hr).mono (by omega)⟩
  | off4 _ hr _ _ _ => exact ⟨hst.mono (by omega), (h3 hr).mono (by omega)⟩
  | ok _ hr _ _ _ =>
    refine ⟨?_, (h3 hr).sync.mono (by omega)⟩
    have hlen := room_len hd.count.ok hr (by omega)
    have hb := bytesF_le (age := L.age + 1) (i := fr) (rs := rs) (by omega) (by omega) hrs
    have q1 : L.age + 1 ≤ 1152921504606846976 := by omega
    have q2 : fr ≤ 2199023255552 := by omega
    have q3 : rs.length ≤ 1000000000 := by omega
    have q4 : (anewB (L.age + 1) fr rs).length ≤ 3200000 := by omega
    have q5 : bytesF (L.age + 1) fr rs ≤ 100000000000000 := by omega
    have q6 : 17 - L.file = 8 ∨ 17 - L.file = 9 := by omega
    have q7 : L.age + 1 < 1125899906842624 + (a + 1) := by omega
    exact ⟨⟨q1, q2, hrs, q3, Nat.le_trans q4 (by omega), q5⟩, ⟨hf, hfi⟩, hrl, q4, hb, q6, q7⟩
theorem LgSt.hd {a : Nat} (h : LgSt a L) : LgSt a L.hd := by
  obtain ⟨h1, h2, h3, h4, h5, h6⟩ := L.hd_same
  have hi := h.inn
  refine ⟨h.ok.hd, ⟨by rw [h2]; exact hi.lo, by rw [h2, h3]; exact hi.hi⟩, by rw [h3]; exact h.many, by rw [h4]; exact h.size, by rw [h5, h3]; exact h.live, by rw [h1]; exact h.file, by have := h.age; omega⟩
theorem PutOut.st {a w : Nat} {p : List Nat} {e : Int} {L' : Lg} {D' : Dk} (h : PutOut L D p e L' D') (hst : LgSt a L) (hd : DkSt w D) (hw : w + 10 < 1000000000) (hp : Bytes p) : LgSt a L' ∧ DkSt (w + 4) D' := by
  have hfile := hst.file
  cases h with
  | off _ => exact ⟨hst, hd.count.mono (by omega)⟩
  | big _ _ => exact ⟨hst, hd.count.mono (by omega)⟩
  | full _ _ _ => exact ⟨hst, hd.count.mono (by omega)⟩
  | ok _ hs hr =>
    have hlen := room_len hd.count.ok hr hs
    have ho := hst.ok
    exact ⟨⟨⟨ho.age, ho.first, ho.recs, ho.many, by show L.size + p.length ≤ _; omega, ho.live⟩, ⟨hst.inn.lo, hst.inn.hi⟩, hst.many, by show L.size + p.length ≤ _; omega, hst.live, hst.file, hst.age⟩, (hd.count.write (by omega) hs hr hp (by omega)).mono (by omega)⟩
theorem LgSt.keep {a fr : Nat} {rs : List (List Nat)} (h : LgSt a L) (hf : 1 ≤ fr) (hfi : fr + rs.length ≤ 1099511627777) (hrs : ∀ r ∈ rs, Bytes r ∧ r.length ≤ 20000) (hrl : rs.length ≤ 3200000 + a) (ha : a ≤ 6701000) : LgSt a (L.keep fr rs) := by
  have hage := h.ok.age
  have hb := bytesF_le (age := L.age) (i := fr) (rs := rs) (by omega) (by omega) hrs
  exact ⟨h.ok.keep (by omega) hrs (by omega), ⟨hf, hfi⟩, hrl, h.size, hb, h.file, h.age⟩
theorem LeftOut.st {a w kind i fr : Nat} {rs : List (List Nat)} {e : Int} {L' : Lg} {D' : Dk} (h : LeftOut L D kind i fr rs e L' D') (hst : LgSt a L) (hd : DkSt w D) (hw : w + 10 < 1000000000) (ha : a ≤ 6700000) (hf : 1 ≤ fr) (hfi : fr + rs.length ≤ 1099511627777)
    (hrs : ∀ r ∈ rs, Bytes r ∧ r.length ≤ 20000) (hrl : rs.length ≤ 3200000 + a) : LgSt (a + 1) L' ∧ DkSt (w + 4) D' := by
  have hlb : Bytes (leftB L kind i) := (begunF_bytes L).app (putF_nil_bytes Bytes.nil)
  cases h with
  | anew _ h => exact h.st hst.hd hd hw ha hf hfi hrs (by omega)
  | fail _ h _ => exact ⟨(h.st hst.hd hd hw hlb).1.mono (by omega), (h.st hst.hd hd hw hlb).2⟩
  | ok _ h =>
    obtain ⟨h1, h2⟩ := h.st hst.hd hd hw hlb
    exact ⟨(h1.keep hf hfi hrs hrl (by omega)).mono (by omega), h2⟩
theorem CutOut.st {a w : Nat} {i : Int} {e : Int} {L' : Lg} {D' : Dk} (h : CutOut L D i e L' D') (hst : LgSt a L) (hd : DkSt w D) (hw : w + 10 < 1000000000) (ha : a ≤ 6700000) : LgSt (a + 1) L' ∧ DkSt (w + 4) D' := by
  have hlo := hst.inn.lo; have hhi := hst.inn.hi; have hm := hst.many
  cases h with
  | arg _ => exact ⟨hst.mono (by omega), hd.mono (by omega)⟩
  | off _ _ _ => exact ⟨hst.mono (by omega), hd.mono (by omega)⟩
  | same _ _ => exact ⟨hst.mono (by omega), hd.mono (by omega)⟩
  | left _ _ _ _ h =>
    exact h.st hst hd hw ha hlo (by rw [List.length_take]; omega) (fun r hr => hst.ok.recs r (List.mem_of_mem_take hr)) (by rw [List.length_take]; omega)
theorem DropOut.st {a w : Nat} {i : Int} {e : Int} {L' : Lg} {D' : Dk} (h : DropOut L D i e L' D') (hst : LgSt a L) (hd : DkSt w D) (hw : w + 10 < 1000000000) (ha : a ≤ 6700000) : LgSt (a + 1) L' ∧ DkSt (w + 4) D' := by
  have hlo := hst.inn.lo; have hhi := hst.inn.hi; have hm := hst.many
  cases h with
  | arg _ => exact ⟨hst.mono (by omega), hd.mono (by omega)⟩
  | off _ _ _ => exact ⟨hst.mono (by omega), hd.mono (by omega)⟩
  | same _ _ => exact ⟨hst.mono (by omega), hd.mono (by omega)⟩
  | left _ h1 h2 _ h =>
    unfold Lg.next at h2
    exact h.st hst hd hw ha (by omega) (by rw [List.length_drop]; omega) (fun r hr => hst.ok.recs r (List.mem_of_mem_drop hr)) (by rw [List.length_drop]; omega)
end
end Go.Am
namespace Go.Am
section
variable {L : Lg} {D : Dk}
theorem takes_one {i n : Nat} (h : L.takes i (n + 1)) : L.takes i 1 := ⟨h.1, h.2.1, by have := h.2.2; omega⟩
theorem takes_next {i n : Nat} {r : List Nat} (h : L.takes i (n + 1)) : (L.add i r).takes ((i + 1 : Nat) : Int) n := by
  obtain ⟨h1, h2, h3⟩ := h
  refine ⟨fun _ => ?_, fun hz => ?_, by omega⟩
  · unfold Lg.next Lg.add Lg.begin
    by_cases hz : L.recs = []
    · show ((i + 1 : Nat) : Int) = (((if L.recs = [] then { L with first := i } else L : Lg).first + (L.recs ++ [r]).length : Nat) : Int)
      rw [if_pos hz, hz]; rfl
    · show ((i + 1 : Nat) : Int) = (((if L.recs = [] then { L with first := i } else L : Lg).first + (L.recs ++ [r]).length : Nat) : Int)
      rw [if_neg hz, List.length_append]
      have := h1 hz
      unfold Lg.next at this
      show ((i + 1 : Nat) : Int) = ((L.first + (L.recs.length + 1) : Nat) : Int)
      omega
  · exact absurd hz (by show ¬ L.recs ++ [r] = []; simp)
theorem LgSt.add {a i : Nat} {r : List Nat} (h : LgSt a L) (ht : L.takes i 1) (hr : Bytes r ∧ r.length ≤ 20000) (ha : a ≤ 7010000) : LgSt (a + 1) (L.add i r) := by
  have hm := h.many; have hl := h.live; have hage := h.age
  have hi : i ≤ 1099511627777 := by have := ht.2.2; omega
  have hlf := longF_le (age := L.age) (i := i) (r := r) (by omega) (by omega)
  have e1 : (L.add i r).recs.length = L.recs.length + 1 := by show (L.recs ++ [r]).length = _; rw [List.length_append]; rfl
  have e2 : (L.add i r).size = L.size := L.begin_size i
  have e3 : (L.add i r).file = L.file := L.begin_file i
  have e4 : (L.add i r).age = L.age := L.begin_age i
  have e5 : (L.add i r).live = L.live + longF L.age i r := rfl
  refine ⟨h.ok.add (by omega) hr (by omega) (by omega), h.inn.add ht, by rw [e1]; omega, by rw [e2]; exact h.size, ?_, by rw [e3]; exact h.file, by rw [e4]; omega⟩
  rw [e5, e1, Nat.add_mul]; omega
theorem LgSt.adds {rs : List (List Nat)} : ∀ {L : Lg} {a i : Nat}, LgSt a L → L.takes i rs.length → (∀ r ∈ rs, Bytes r ∧ r.length ≤ 20000) → a + rs.length ≤ 7010000 → LgSt (a + rs.length) (L.adds i rs) := by
  induction rs with
  | nil => intro L a i h _ _ _; exact h
  | cons r rs ih =>
    intro L a i h ht hr ha
    rw [List.length_cons] at ht ha
    have h1 := h.add (takes_one ht) (hr r List.mem_cons_self) (by omega)
    have h2 := ih (i := i + 1) h1 (takes_next ht) (fun x hx => hr x (List.mem_cons_of_mem _ hx)) (by omega)
    rw [List.length_cons, show a + (rs.length + 1) = a + 1 + rs.length by omega]
    exact h2
theorem takes_grown {i : Int} {n k : Nat} (h : L.takes i n) : (L.grown k).takes i n := h
theorem takes_hd {i : Int} {n : Nat} (h : L.takes i n) : L.hd.takes i n := by
  obtain ⟨h1, h2, h3, h4, h5, h6⟩ := L.hd_same
  have e : L.hd.next = L.next := by unfold Lg.next; rw [h2, h3]
  exact ⟨by rw [h3, e]; exact h.1, by rw [h3]; exact h.2.1, h.2.2⟩
theorem AppOut.st {a w : Nat} {i : Int} {rs : List (List Nat)} {e : Int} {L' : Lg} {D' : Dk} (h : AppOut L D i rs e L' D') (hst : LgSt a L) (hd : DkSt w D) (hw : w + 10 < 1000000000) (ha : a ≤ 6700000) (hrl : rs.length ≤ 100) (hrs : ∀ r ∈ rs, Bytes r ∧ r.length ≤ 20000) :
    LgSt (a + rs.length + 1) L' ∧ DkSt (w + 4) D' := by
  have hB : ∀ j, Bytes (appB L j rs) := fun j => (begunF_bytes L).app (framesF_bytes hrs)
  cases h with
  | arg _ => exact ⟨hst.mono (by omega), hd.mono (by omega)⟩
  | off _ _ => exact ⟨hst.mono (by omega), hd.mono (by omega)⟩
  | noop _ _ _ _ => exact ⟨hst.mono (by omega), hd.mono (by omega)⟩
  | left hi ht _ hz hr _ h =>
    subst hi
    have h2 := ht.2.1 hr
    obtain ⟨q1, q2⟩ := h.st hst hd hw ha (by omega) (by simp only [List.length_nil]; omega) (fun r hr => (by cases hr)) (Nat.zero_le _)
    exact ⟨q1.mono (by omega), q2⟩
  | fail _ _ _ _ _ h _ =>
    obtain ⟨q1, q2⟩ := h.st hst.hd hd hw (hB _)
    exact ⟨q1.mono (by omega), q2⟩
  | ok hi ht _ _ _ h =>
    subst hi
    obtain ⟨q1, q2⟩ := h.st hst.hd hd hw (hB _)
    have ht' := takes_hd ht
    cases h with
    | ok _ _ _ => exact ⟨(q1.adds (takes_grown ht') hrs (by omega)).mono (by omega), q2⟩
end
end Go.Am
namespace Go.Am
section
variable {tab : Nat → Option PFn} {σ : S} {Q : AVal → S → Prop} {G M : Nat → Prop} {l d : Pos} {L : Lg} {D : Dk} {rv : AVal} {mr : Nat}
theorem OpenS.st {w : Nat} {L' : Lg} {D' : Dk} (h : OpenS D L' D') (hst : LgSt 0 (openL D)) (hd : ∀ D1, trim (openL D) 40 8 D = (true, D1) → DkSt w D1) : LgSt 1 L' ∧ DkSt 4 D' := by
  cases h with
  | same h1 _ _ => exact ⟨hst.mono (by omega), (hd _ h1).count.sync.mono (by omega)⟩
  | anew h1 _ _ h2 _ =>
    have hm := hst.many; have hi := hst.inn.hi
    exact h2.st hst (hd _ h1).count.sync (by omega) (by omega) hst.inn.lo hi hst.ok.recs (by omega)
theorem trim_st (n : Nat) : ∀ (f w : Nat) (D D1 : Dk), trim L n f D = (true, D1) → DkSt w D → f + n ≤ 64 → w + n < 1000000000 → DkSt (w + n) D1 := by
  induction n with
  | zero => intro f w D D1 h hd _ _; cases h; exact hd
  | succ n ih =>
    intro f w D D1 h hd hf hw
    unfold trim at h
    split at h
    · rename_i hk
      split at h
      · cases h
      · have hcf : D.count.file f = D.file f := by unfold Dk.count; split; rfl; split <;> rfl
        exact (ih _ _ _ _ h (hd.count.cutF (by omega) (by rw [hcf]; omega) (by omega)) (by omega) (by omega)).mono (by omega)
    · exact (ih _ _ _ _ h hd (by omega) (by omega)).mono (by omega)
theorem Write_any (ht : Tab tab) {pf ps : Pos} {fv sv wc : List AVal} {wv : AVal} {mw w : Nat} (ho : Ok σ) (h : DkAt σ G d D pf ps fv sv wv wc mw) (hd : DkSt w D) (hw : w + 10 < 1000000000) {k a : Nat} {v : AVal} {p : List Nat} {m : Nat} (hk : k < 64) (hv : BySl σ v p m) (hpb : Bytes p) (hm : p ≠ [] → ¬ G m) (ha : a ≤ 1000000000) (hpl : p.length ≤ 4611686018427387904)
    (hQ : ∀ e σ' G' D' fv' wv' wc' mw', DkSt (w + 1) D' → DkAt σ' G' d D' pf ps fv' sv wv' wc' mw' → Keep (dM d pf ps mw) σ σ' → Gr σ G G' → (mw' = mw ∨ σ.next.nat ≤ mw') → Q (.int .i64 e) σ') : WF tab 10 [.ptr d 0, .int .i64 (k : Int), .int .i64 (a : Int), v] σ Q :=
  Write_g ht ho h hd.ok (by have := hd.wn; omega) hk hv hpb hm ha hpl (fun σ' _ hd' k' => hQ _ σ' G _ _ _ _ _ (hd.count.mono (by omega)) hd' k' (Gr.refl _ _) (.inl rfl)) (fun σ' _ _ hd' k' => hQ _ σ' G _ _ _ _ _ (hd.count.mono (by omega)) hd' k' (Gr.refl _ _) (.inl rfl))
    (fun σ' _ _ _ hd' k' => hQ _ σ' G _ _ _ _ _ (hd.count.mono (by omega)) hd' k' (Gr.refl _ _) (.inl rfl)) (fun σ' G' _ _ _ _ _ hs hr hd' k' g' m' => hQ _ σ' G' _ _ _ _ _ (hd.count.write hk hs hr hpb (by omega)) hd' k' g' m')
end
end Go.Am
