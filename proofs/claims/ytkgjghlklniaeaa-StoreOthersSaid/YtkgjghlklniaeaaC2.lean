/-
  What the functions do, as conditions over the evaluator. Conditions: none.
-/
import Derived.Test.YtkgjghlklniaeaaC1
namespace Go.Am
section
variable {tab : Nat → Option PFn} {σ : S} {Q : AVal → S → Prop} {G : Nat → Prop} {l d pf ps : Pos} {D : Dk} {fv sv wc : List AVal} {wv : AVal} {mw : Nat}
theorem or3 {b c : Bool} {o1 : Option AVal} {ad v : AVal} {o3 : AVal → Option AVal} {K : AVal → AVal → AVal → AVal → Prop} (h1 : o1 = some ad) (h2 : vLoad1 ad σ = some v) (h3 : o3 v = some (.bool c)) (hK : ∀ t1 t2 t3, K t1 t2 t3 (.bool (b || c))) :
    Som (gq1 (isB (.bool b) false) o1) fun t1 => Som (gq1 (isB (.bool b) false) (vLoad1 t1 σ)) fun t2 => Som (gq1 (isB (.bool b) false) (o3 t2)) fun t3 => Som (vPick (.bool b) (.bool true) t3) fun t4 => K t1 t2 t3 t4 := by
  cases b with
  | true => exact Som_of rfl (Som_of rfl (Som_of rfl (Som_of rfl (hK _ _ _))))
  | false => exact Sq_of rfl h1 (Sq_of rfl h2 (Sq_of rfl h3 (Som_of rfl (hK _ _ _))))
theorem readw_c (ht : Tab tab) (ho : Ok σ) (h : DkAt σ G d D pf ps fv sv wv wc mw) (hok : DkOk D) (hoff : D.off = false) {k : Nat} (hk : k < 64)
    (hN : ∀ σ' bs, D.files[k]? = some bs → readF bs k = none → Keep0 σ σ' → Q .nptr σ')
    (hS : ∀ σ' bs G' l L rv mr, D.files[k]? = some bs → readF bs k = some L → LgAt σ' G' l d L rv mr → RdIn bs L → Keep0 σ σ' → Gr σ G G' → σ.next.nat ≤ l.nat → σ.next.nat ≤ mr → Q (.ptr l 0) σ') : WF tab 41 [.ptr d 0, .int .i64 (k : Int)] σ Q := by
  refine f41_wf ht.t41 ?_
  unfold f41
  refine dread_c ht ho h hok hoff hk fun v b m σ1 hf hv k1 hm => ?_
  have hfb := hok.fl b (List.mem_of_getElem? hf)
  refine nextw_c (a := 0) ht k1.ok hv hfb.2 (by omega) (by omega) (fun σ2 hnw k2 _ => ?_) (fun x to σ2 hnw k2 hlt2 => ?_)
  · refine Som_of rfl (Som_of rfl (Som_of rfl (Ala_of rfl ?_)))
    have k12 := k1.trans k2
    have k3 : Keep0 σ2 (σ2.new ⟨0, .ex, [.int .i64 0, .int .i64 0, .int .i64 0, .int .i64 0, .str []]⟩) := Keep.new k2.ok _
    have b3 : (σ2.new ⟨0, .ex, [.int .i64 0, .int .i64 0, .int .i64 0, .int .i64 0, .str []]⟩).blk σ2.next = some ⟨0, .ex, [.int .i64 0, .int .i64 0, .int .i64 0, .int .i64 0, .str []]⟩ := by rw [blk_new, if_pos rfl]; rfl
    generalize σ2.new ⟨0, .ex, [.int .i64 0, .int .i64 0, .int .i64 0, .int .i64 0, .str []]⟩ = σ3 at *
    refine Eff_of (storeN_of b3 rfl (by omega) (by simp)) ?_
    have k4 : Keep (fun x => x = σ2.next.nat) σ3 _ := Keep.upd k3.ok b3 (c := ⟨0, .ex, [.int .i64 0, .int .i64 0, .int .i64 0, .int .i64 0, .str []]⟩) rfl
    refine Som_of (un_not _) ?_
    rw [show (!false) = true from rfl]
    refine Som_of rfl (Som_of rfl (Som_of rfl (Som_of rfl (Som_of rfl (Som_of rfl (Som_of rfl (Som_of rfl (Som_of rfl (Som_of rfl (Som_of rfl (Som_of rfl ?_)))))))))))
    refine Som_of rfl (Som_of rfl (Som_of rfl (Som_of rfl (Som_of rfl (Som_of rfl (Som_of rfl (Som_of rfl (Som_of rfl (Som_of rfl (Som_of rfl (Som_of rfl ?_)))))))))))
    rw [WIf_true, Ret_1 rfl]
    have n12 := k12.next
    refine hN _ b hf ?_ ((k12.trans k3).then ho k4 fun x hx e => by omega)
    unfold readF; simp only [hnw]
  · obtain ⟨w1, w2, w3, w4, w5, w6, w7⟩ := nextW_ok hnw hfb.2
    obtain ⟨kind, age, i, n, rec_⟩ := x
    refine Som_of rfl (Som_of rfl (Som_of rfl (Ala_of rfl ?_)))
    have k12 := k1.trans k2
    have k3 : Keep0 σ2 (σ2.new ⟨0, .ex, [.int .i64 0, .int .i64 0, .int .i64 0, .int .i64 0, .str []]⟩) := Keep.new k2.ok _
    have b3 : (σ2.new ⟨0, .ex, [.int .i64 0, .int .i64 0, .int .i64 0, .int .i64 0, .str []]⟩).blk σ2.next = some ⟨0, .ex, [.int .i64 0, .int .i64 0, .int .i64 0, .int .i64 0, .str []]⟩ := by rw [blk_new, if_pos rfl]; rfl
    have n3 := new_next (σ := σ2) ⟨0, .ex, [.int .i64 0, .int .i64 0, .int .i64 0, .int .i64 0, .str []]⟩
    generalize σ2.new ⟨0, .ex, [.int .i64 0, .int .i64 0, .int .i64 0, .int .i64 0, .str []]⟩ = σ3 at *
    refine Eff_of (storeN_of (xs := [.int .i64 kind, .int .i64 age, .int .i64 i, .int .i64 n, .str rec_]) b3 rfl (by omega) (by simp)) ?_
    have e4 : ([AVal.int .i64 0, .int .i64 0, .int .i64 0, .int .i64 0, .str []].take 0 ++ [.int .i64 kind, .int .i64 age, .int .i64 i, .int .i64 n, .str rec_] ++ [AVal.int .i64 0, .int .i64 0, .int .i64 0, .int .i64 0, .str []].drop (0 + 5)) = [.int .i64 kind, .int .i64 age, .int .i64 i, .int .i64 n, .str rec_] := rfl
    rw [e4]
    have k4 : Keep (fun x => x = σ2.next.nat) σ3 _ := Keep.upd k3.ok b3 (c := ⟨0, .ex, [.int .i64 kind, .int .i64 age, .int .i64 i, .int .i64 n, .str rec_]⟩) rfl
    have b4 : (σ3.upd σ2.next ⟨0, .ex, [.int .i64 kind, .int .i64 age, .int .i64 i, .int .i64 n, .str rec_]⟩).blk σ2.next = some ⟨0, .ex, [.int .i64 kind, .int .i64 age, .int .i64 i, .int .i64 n, .str rec_]⟩ := blk_upd_same _ _
    have n4 : (σ3.upd σ2.next ⟨0, .ex, [.int .i64 kind, .int .i64 age, .int .i64 i, .int .i64 n, .str rec_]⟩).next = σ3.next := rfl
    generalize σ3.upd σ2.next ⟨0, .ex, [.int .i64 kind, .int .i64 age, .int .i64 i, .int .i64 n, .str rec_]⟩ = σ4 at *
    have n12 := k12.next
    have n1 := k1.next
    have n2 := k2.next
    have k24 : Keep0 σ2 σ4 := k3.then k2.ok k4 fun x hx e => by omega
    have k04 : Keep0 σ σ4 := k12.trans k24
    refine Som_of (un_not _) ?_
    rw [show (!true) = false from rfl]
    refine or3 (vField0 _ _ _) (ld b4 rfl) (bin_neq _ _ _ _) fun u1 u2 u3 => ?_
    refine or3 (vField0 _ _ _) (ld b4 rfl) (bin_lss _ _ _ _) fun u4 u5 u6 => ?_
    refine or3 (vField0 _ _ _) (ld b4 rfl) (bin_geq _ _ _ _) fun u7 u8 u9 => ?_
    refine or3 (vField0 _ _ _) (ld b4 rfl) (bin_lss _ _ _ _) fun u10 u11 u12 => ?_
    refine or3 (vField0 _ _ _) (ld b4 rfl) (bin_gtr _ _ _ _) fun u13 u14 u15 => ?_
    refine or3 (vField0 _ _ _) (ld b4 rfl) (bin_lss _ _ _ _) fun u16 u17 u18 => ?_
    have hd : (((((false || decide (kind ≠ 0)) || decide (age < 1)) || decide ((1125899906842624 : Int) ≤ age)) || decide (i < 1)) || decide ((1099511627777 : Int) < i) || decide (n < 0)) = decide (¬ headOk ⟨kind, age, i, n, rec_⟩) := by
      by_cases hh : headOk ⟨kind, age, i, n, rec_⟩
      · have e0 : decide (¬ headOk ⟨kind, age, i, n, rec_⟩) = false := decide_eq_false (fun e => e hh)
        rw [e0]
        obtain ⟨c1, c2, c3, c4, c5, c6⟩ := hh
        have c1 : kind = 0 := c1
        have c2 : 1 ≤ age := c2
        have c3 : age < 1125899906842624 := c3
        have c4 : 1 ≤ i := c4
        have c5 : i ≤ 1099511627777 := c5
        have c6 : 0 ≤ n := c6
        rw [decide_eq_false (show ¬ kind ≠ 0 by omega), decide_eq_false (show ¬ age < 1 by omega), decide_eq_false (show ¬ (1125899906842624 : Int) ≤ age by omega), decide_eq_false (show ¬ i < 1 by omega), decide_eq_false (show ¬ (1099511627777 : Int) < i by omega), decide_eq_false (show ¬ n < 0 by omega)]; rfl
      · rw [decide_eq_true hh]
        simp only [Bool.false_or, Bool.or_eq_true, decide_eq_true_eq]
        by_cases c1 : kind = 0
        · by_cases c2 : 1 ≤ age
          · by_cases c3 : age < 1125899906842624
            · by_cases c4 : 1 ≤ i
              · by_cases c5 : i ≤ 1099511627777
                · by_cases c6 : 0 ≤ n
                  · exact absurd ⟨c1, c2, c3, c4, c5, c6⟩ hh
                  · exact .inr (by omega)
                · exact .inl (.inr (by omega))
              · exact .inl (.inl (.inr (by omega)))
            · exact .inl (.inl (.inl (.inr (by omega))))
          · exact .inl (.inl (.inl (.inl (.inr (by omega)))))
        · exact .inl (.inl (.inl (.inl (.inl c1))))
    rw [hd]
    refine WIf_dec (fun hno => ?_) (fun hyes => ?_)
    · rw [Ret_1 rfl]
      refine hN σ4 b hf ?_ k04
      unfold readF; simp only [hnw]; rw [if_neg hno]
    · have hyes : headOk ⟨kind, age, i, n, rec_⟩ := Decidable.not_not.1 hyes
      obtain ⟨c1, c2, c3, c4, c5, c6⟩ := hyes
      have c2 : 1 ≤ age := c2
      have c3 : age < 1125899906842624 := c3
      have c4 : 1 ≤ i := c4
      have c5 : i ≤ 1099511627777 := c5
      have c6 : 0 ≤ n := c6
      have w7 : -9223372036854775808 ≤ n ∧ n ≤ 9223372036854775807 := w7
      obtain ⟨age', ha⟩ := Int.eq_ofNat_of_zero_le (show 0 ≤ age by omega)
      obtain ⟨i', hi⟩ := Int.eq_ofNat_of_zero_le (show 0 ≤ i by omega)
      obtain ⟨n', hn⟩ := Int.eq_ofNat_of_zero_le c6
      subst ha; subst hi; subst hn
      refine Som_of (vField0 _ _ _) (Som_of (ld b4 rfl) (Som_of (vField0 _ _ _) (Som_of (ld b4 rfl) ?_)))
      have hbd : vBuild [AVal.nptr, .int .i64 0, .int .i64 0, .int .i64 0, .nsl, .int .i64 0, .int .i64 0] [(0, 1, .ptr d 0), (1, 1, .int .i64 (k : Int)), (2, 1, .int .i64 (age' : Int)), (3, 1, .int .i64 (i' : Int)), (5, 1, .int .i64 (to : Int))] =
        some (.agg [.ptr d 0, .int .i64 (k : Int), .int .i64 (age' : Int), .int .i64 (i' : Int), .nsl, .int .i64 (to : Int), .int .i64 0]) := rfl
      refine Som_of hbd (Ala_of rfl ?_)
      have k5 : Keep0 σ4 (σ4.new ⟨0, .ex, [.ptr d 0, .int .i64 (k : Int), .int .i64 (age' : Int), .int .i64 (i' : Int), .nsl, .int .i64 (to : Int), .int .i64 0]⟩) := Keep.new k24.ok _
      have b5 : (σ4.new ⟨0, .ex, [.ptr d 0, .int .i64 (k : Int), .int .i64 (age' : Int), .int .i64 (i' : Int), .nsl, .int .i64 (to : Int), .int .i64 0]⟩).blk σ4.next = some ⟨0, .ex, [.ptr d 0, .int .i64 (k : Int), .int .i64 (age' : Int), .int .i64 (i' : Int), .nsl, .int .i64 (to : Int), .int .i64 0]⟩ := by rw [blk_new, if_pos rfl]; rfl
      have n5 := new_next (σ := σ4) ⟨0, .ex, [.ptr d 0, .int .i64 (k : Int), .int .i64 (age' : Int), .int .i64 (i' : Int), .nsl, .int .i64 (to : Int), .int .i64 0]⟩
      have bx5 := k5.old _ _ b4 (fun h => h)
      generalize σ4.new ⟨0, .ex, [.ptr d 0, .int .i64 (k : Int), .int .i64 (age' : Int), .int .i64 (i' : Int), .nsl, .int .i64 (to : Int), .int .i64 0]⟩ = σ5 at *
      refine Som_of (vField0 _ _ _) (Som_of (ld bx5 rfl) ?_)
      have k05 : Keep0 σ σ5 := k04.trans k5
      have k15 : Keep0 σ1 σ5 := (k2.trans k24).trans k5
      have n4' : σ4.next.nat = σ2.next.nat + 1 := by rw [n4]; exact n3
      have hl5 : LgAt σ5 (fun x => G x ∨ x = σ4.next.nat ∨ x = σ1.next.nat) σ4.next d ⟨k, age', i', [], to, 0⟩ .nsl σ1.next.nat :=
        ⟨b5, GrAt.nil _ 1 _, by omega, .inr (.inl rfl), .inr (.inr rfl), fun x hx => by
          rcases hx with hx | hx | hx
          · have := h.gl x hx; have := k05.next; omega
          · omega
          · omega⟩
      have hin5 : RdIn b ⟨k, age', i', [], to, 0⟩ := ⟨⟨by show age' ≤ _; omega, by show i' ≤ _; omega, fun r hr => (by cases hr), by show 0 ≤ _; omega, by show to ≤ _; omega, Nat.zero_le _⟩, ⟨by show 1 ≤ i'; omega, by show i' + 0 ≤ _; omega⟩, Nat.zero_le _, w1, Nat.zero_le _⟩
      have hmb : b ≠ [] → m ≠ σ4.next.nat ∧ m ≠ σ1.next.nat ∧ m ≠ σ2.next.nat := fun hne => by
        have hlt : m < σ1.next.nat := SlAt.own_lt hv k1.ok (by rw [Nat.mul_one]; exact fun e => hne (List.eq_nil_of_length_eq_zero e))
        omega
      refine read_loop ht (b.length + 1) _ σ5 _ ⟨k, age', i', [], to, 0⟩ .nsl σ1.next.nat n' b v m σ2.next _ k5.ok hl5 hin5 hfb.2 (by omega) (by show b.length < to + (b.length + 1); omega) (hv.keep (fun _ h => h) k15) hmb bx5 rfl (fun e => by have := congrArg Pos.nat e; omega) (by omega) (by omega) (by simp) (by simp) (by simp) (by simp) ?_
      intro σ' G' L' w' rv' mr' hlf hL' hin' k' g' l'
      have hk' : Keep0 σ σ' := k05.then ho k' fun x hx e => by
        rcases e with e | e
        · rcases e with e | e <;> omega
        · omega
      have hage : ((age' : Int)).toNat = age' := by omega
      have hii : ((i' : Int)).toNat = i' := by omega
      have hnn : ((n' : Int)).toNat = n' := by omega
      have hrf : readF b k = if w' = 0 then some L' else none := by
        unfold readF
        simp only [hnw]
        rw [if_pos (show headOk ⟨kind, (age' : Int), (i' : Int), (n' : Int), rec_⟩ from ⟨c1, c2, c3, c4, c5, c6⟩)]
        simp only [hage, hii, hnn]
        rw [hlf]
      by_cases hw : w' = 0
      · rw [if_pos hw] at hrf ⊢
        refine hS σ' b G' σ4.next L' rv' mr' hf hrf hL' hin' hk' ⟨fun x hx => g'.1 x (.inl hx), fun x hx hg => ?_⟩ (by omega) (by omega)
        rcases g'.2 x (by omega) hg with hh | hh | hh
        · exact hh
        · omega
        · omega
      · rw [if_neg hw] at hrf ⊢
        exact hN σ' b hf hrf hk'
end
end Go.Am
namespace Go.Am
section
variable {tab : Nat → Option PFn} {σ : S} {Q : AVal → S → Prop} {G M : Nat → Prop} {l d : Pos} {L : Lg} {D : Dk}
theorem DkAt.move {N G' : Nat → Prop} {σ' : S} {pf ps : Pos} {fv sv wc : List AVal} {wv : AVal} {mw : Nat} (h : DkAt σ G d D pf ps fv sv wv wc mw) (ho : Ok σ) (k : Keep N σ σ') (hn : ∀ x, N x → G x) (hx : ∀ x, dM d pf ps mw x → ¬ N x) (g : Gr σ G G') (hl : ∀ x, G' x → x < σ'.next.nat) : DkAt σ' G' d D pf ps fv sv wv wc mw :=
  { h with
    blk := k.old _ _ h.blk (hx _ (.inl rfl))
    fb := k.old _ _ h.fb (hx _ (.inr (.inl rfl)))
    sb := k.old _ _ h.sb (hx _ (.inr (.inr (.inl rfl))))
    ff := fun i v bs a b => ((h.ff i v bs a b).grow ho g.2).keep k fun x hx => g.1 x (hn x hx)
    ss := fun i v bs a b => ((h.ss i v bs a b).grow ho g.2).keep k fun x hx => g.1 x (hn x hx)
    wg := h.wg.keep (hx _ (.inr (.inr (.inr rfl)))) k
    ww := fun i c hc => let ⟨pv, a, b⟩ := h.ww i c hc; ⟨pv, a, (b.grow ho g.2).keep k fun x hx => g.1 x (hn x hx)⟩
    g1 := g.1 _ h.g1
    g2 := g.1 _ h.g2
    g3 := g.1 _ h.g3
    g4 := g.1 _ h.g4
    gl := hl }
theorem LgAt.move {N G' : Nat → Prop} {σ' : S} {rv : AVal} {mr : Nat} (h : LgAt σ G l d L rv mr) (k : Keep N σ σ') (hx : ∀ x, lM l mr x → ¬ N x) (g : Gr σ G G') (hl : ∀ x, G' x → x < σ'.next.nat) : LgAt σ' G' l d L rv mr :=
  ⟨k.old _ _ h.blk (hx _ (.inl rfl)), h.rg.keep (hx _ (.inr rfl)) k, h.n1, g.1 _ h.g1, g.1 _ h.g2, hl⟩
structure WlAt (σ : S) (G : Nat → Prop) (l d : Pos) (L : Lg) (D : Dk) (rv : AVal) (mr : Nat) (pf ps : Pos) (fv sv : List AVal) (wv : AVal) (wc : List AVal) (mw : Nat) : Prop where
  lg : LgAt σ G l d L rv mr
  dk : DkAt σ G d D pf ps fv sv wv wc mw
  ap : ∀ x, lM l mr x → ¬ dM d pf ps mw x
def wM (l : Pos) (mr : Nat) (d pf ps : Pos) (mw : Nat) : Nat → Prop := fun x => lM l mr x ∨ dM d pf ps mw x
def WL (σ : S) (G : Nat → Prop) (l d : Pos) (L : Lg) (D : Dk) (rv : AVal) (mr : Nat) (M : Nat → Prop) : Prop :=
  ∃ pf ps fv sv wv wc mw, WlAt σ G l d L D rv mr pf ps fv sv wv wc mw ∧ M = wM l mr d pf ps mw
theorem WL.lg {rv : AVal} {mr : Nat} (h : WL σ G l d L D rv mr M) : LgAt σ G l d L rv mr := by
  obtain ⟨_, _, _, _, _, _, _, h, _⟩ := h; exact h.lg
theorem WL.hl {rv : AVal} {mr : Nat} (h : WL σ G l d L D rv mr M) : M l.nat := by
  obtain ⟨_, _, _, _, _, _, _, h, e⟩ := h; rw [e]; exact .inl (.inl rfl)
theorem WL.hr {rv : AVal} {mr : Nat} (h : WL σ G l d L D rv mr M) : M mr := by
  obtain ⟨_, _, _, _, _, _, _, h, e⟩ := h; rw [e]; exact .inl (.inr rfl)
theorem WL.hG {rv : AVal} {mr : Nat} (h : WL σ G l d L D rv mr M) : ∀ x, M x → G x := by
  obtain ⟨_, _, _, _, _, _, _, h, e⟩ := h
  rw [e]
  intro x hx
  rcases hx with hx | hx
  · rcases hx with hx | hx
    · rw [hx]; exact h.lg.g1
    · rw [hx]; exact h.lg.g2
  · rcases hx with hx | hx | hx | hx
    · rw [hx]; exact h.dk.g1
    · rw [hx]; exact h.dk.g2
    · rw [hx]; exact h.dk.g3
    · rw [hx]; exact h.dk.g4
theorem WL.gl {rv : AVal} {mr : Nat} (h : WL σ G l d L D rv mr M) : ∀ x, G x → x < σ.next.nat := h.lg.gl
theorem WL.lt {rv : AVal} {mr : Nat} (h : WL σ G l d L D rv mr M) : ∀ x, M x → x < σ.next.nat := fun x hx => h.gl x (h.hG x hx)
theorem WL.keep0 {σ' : S} {rv : AVal} {mr : Nat} (h : WL σ G l d L D rv mr M) (k : Keep0 σ σ') : WL σ' G l d L D rv mr M := by
  obtain ⟨pf, ps, fv, sv, wv, wc, mw, h, e⟩ := h
  exact ⟨pf, ps, fv, sv, wv, wc, mw, ⟨h.lg.keep0 k, h.dk.keep0 k, h.ap⟩, e⟩
theorem WL.setL {σ' : S} {G' : Nat → Prop} {L' : Lg} {rv rv' : AVal} {mr mr' : Nat} (h : WL σ G l d L D rv mr M) (ho : Ok σ) (hl : LgAt σ' G' l d L' rv' mr') (k : Keep (lM l mr) σ σ') (g : Gr σ G G') (hm : mr' = mr ∨ σ.next.nat ≤ mr') :
    ∃ M', WL σ' G' l d L' D rv' mr' M' ∧ Keep M σ σ' ∧ Sub σ M M' := by
  obtain ⟨pf, ps, fv, sv, wv, wc, mw, h, e⟩ := h
  refine ⟨wM l mr' d pf ps mw, ⟨pf, ps, fv, sv, wv, wc, mw, ⟨hl, ?_, fun x hx hd => ?_⟩, rfl⟩, k.mono fun x hx => by rw [e]; exact .inl hx, fun x hx => ?_⟩
  · exact h.dk.move ho k (fun x hx => by
      rcases hx with hx | hx
      · rw [hx]; exact h.lg.g1
      · rw [hx]; exact h.lg.g2) (fun x hd hx => h.ap x hx hd) g hl.gl
  · rcases hx with hx | hx
    · exact h.ap x (.inl hx) hd
    · rcases hm with e' | e'
      · exact h.ap x (.inr (by rw [hx, e'])) hd
      · have : x < σ.next.nat := by
          rcases hd with hd | hd | hd | hd
          · rw [hd]; exact h.dk.gl _ h.dk.g1
          · rw [hd]; exact h.dk.gl _ h.dk.g2
          · rw [hd]; exact h.dk.gl _ h.dk.g3
          · rw [hd]; exact h.dk.gl _ h.dk.g4
        omega
  · rcases hx with hx | hx
    · rcases hx with hx | hx
      · left; rw [e]; exact .inl (.inl hx)
      · rcases hm with e' | e'
        · left; rw [e]; exact .inl (.inr (by rw [hx, e']))
        · right; omega
    · left; rw [e]; exact .inr hx
theorem WlAt.setD {pf ps : Pos} {fv sv wc fv' sv' wc' : List AVal} {wv wv' : AVal} {mw mw' : Nat} {σ' : S} {G' : Nat → Prop} {D' : Dk} {rv : AVal} {mr : Nat} (h : WlAt σ G l d L D rv mr pf ps fv sv wv wc mw)
    (hd : DkAt σ' G' d D' pf ps fv' sv' wv' wc' mw') (k : Keep (dM d pf ps mw) σ σ') (g : Gr σ G G') (hm : mw' = mw ∨ σ.next.nat ≤ mw') :
    WL σ' G' l d L D' rv mr (wM l mr d pf ps mw') ∧ Keep (wM l mr d pf ps mw) σ σ' ∧ Sub σ (wM l mr d pf ps mw) (wM l mr d pf ps mw') := by
  refine ⟨⟨pf, ps, fv', sv', wv', wc', mw', ⟨h.lg.move k h.ap g hd.gl, hd, fun x hx hd' => ?_⟩, rfl⟩, k.mono fun x hx => .inr hx, fun x hx => ?_⟩
  · rcases hd' with hd' | hd' | hd' | hd'
    · exact h.ap x hx (.inl hd')
    · exact h.ap x hx (.inr (.inl hd'))
    · exact h.ap x hx (.inr (.inr (.inl hd')))
    · rcases hm with e | e
      · exact h.ap x hx (.inr (.inr (.inr (by rw [hd', e]))))
      · have hlt : x < σ.next.nat := by
          rcases hx with hx | hx
          · rw [hx]; exact h.lg.gl _ h.lg.g1
          · rw [hx]; exact h.lg.gl _ h.lg.g2
        omega
  · rcases hx with hx | hx
    · exact .inl (.inl hx)
    · rcases hx with hx | hx | hx | hx
      · exact .inl (.inr (.inl hx))
      · exact .inl (.inr (.inr (.inl hx)))
      · exact .inl (.inr (.inr (.inr (.inl hx))))
      · rcases hm with e | e
        · exact .inl (.inr (.inr (.inr (.inr (by rw [hx, e])))))
        · right; omega
abbrev Then (σ : S) (G M : Nat → Prop) (l d : Pos) (L : Lg) (D : Dk) (R : S → Prop) : Prop := ∀ σ' G' M' rv mr, WL σ' G' l d L D rv mr M' → Keep M σ σ' → Gr σ G G' → Sub σ M M' → R σ'
abbrev ThenK (mr : Nat) (σ : S) (G M : Nat → Prop) (l d : Pos) (L : Lg) (D : Dk) (R : S → Prop) : Prop := ∀ σ' G' M' rv' mr', WL σ' G' l d L D rv' mr' M' → Keep (fun x => M x ∧ x ≠ mr) σ σ' → Gr σ G G' → Sub σ M M' → R σ'
theorem ThenK.of {R : S → Prop} {σ1 : S} {mr : Nat} (k : Keep0 σ σ1) (h : ThenK mr σ G M l d L D R) : ThenK mr σ1 G M l d L D R := fun σ' G' M' rv' mr' a b c e =>
  h σ' G' M' rv' mr' a ((Keep0.to k).trans b) ⟨c.1, fun x hx hg => c.2 x (by have := k.next; omega) hg⟩ fun x hx => (e x hx).imp id fun hh => by have := k.next; omega
theorem Then.of {R : S → Prop} {σ1 : S} (k : Keep0 σ σ1) (h : Then σ G M l d L D R) : Then σ1 G M l d L D R := fun σ' G' M' rv mr a b c e =>
  h σ' G' M' rv mr a ((Keep0.to k).trans b) ⟨c.1, fun x hx hg => c.2 x (by have := k.next; omega) hg⟩ fun x hx => (e x hx).imp id fun hh => by have := k.next; omega
def Lg.grown (L : Lg) (n : Nat) : Lg := { L with size := L.size + n }
theorem put_lc (ht : Tab tab) {rv : AVal} {mr : Nat} (ho : Ok σ) (h : WL σ G l d L D rv mr M) (hok : LgOk L) (hdk : DkOk D) (hwn : D.wait.length < 1000000000) (hfile : L.file < 64) {v : AVal} {p : List Nat} {m : Nat} (hv : BySl σ v p m) (hpb : Bytes p) (hm : p ≠ [] → ¬ G m) (hpl : p.length ≤ 1000000000000)
    (hsz : D.count.room L.file L.size p.length → L.size + p.length ≤ 1000000000)
    (hO : D.count.off = true → ThenK mr σ G M l d L D.count (Q (.int .i64 11)))
    (hA : D.count.off = false → L.size > 1048576 → ThenK mr σ G M l d L D.count (Q (.int .i64 1)))
    (hF : D.count.off = false → L.size ≤ 1048576 → ¬ D.count.room L.file L.size p.length → ThenK mr σ G M l d L D.count (Q (.int .i64 10)))
    (hS : D.count.off = false → L.size ≤ 1048576 → D.count.room L.file L.size p.length → ThenK mr σ G M l d (L.grown p.length) (D.count.write L.file L.size p) (Q (.int .i64 0))) : WF tab 51 [.ptr l 0, v] σ Q := by
  refine f51_wf ht.t51 ?_
  unfold f51
  obtain ⟨pf, ps, fv, sv, wv, wc, mw, h, e⟩ := h
  subst e
  have k1 : Keep0 σ (σ.bumpT 15) := Keep.bump ho 15
  have h1 : WlAt (σ.bumpT 15) G l d L D rv mr pf ps fv sv wv wc mw := ⟨h.lg.keep0 k1, h.dk.keep0 k1, h.ap⟩
  have hO := fun a => ThenK.of k1 (hO a)
  have hA := fun a b => ThenK.of k1 (hA a b)
  have hF := fun a b c => ThenK.of k1 (hF a b c)
  have hS := fun a b c => ThenK.of k1 (hS a b c)
  have hv1 := hv.keep (M := fun _ => False) (fun _ h => h) k1
  have hs := hok.size
  refine Som_of rfl (Som_of (vField0 _ _ _) (Som_of (ld h1.lg.blk rfl) (Som_of rfl (Som_of (vField0 _ _ _) (Som_of (ld h1.lg.blk rfl) (Som_of rfl (Som_of (vField0 _ _ _) (Som_of (ld h1.lg.blk rfl) ?_))))))))
  have fail : ∀ (σ2 : S) (e : Int), e ≠ 0 → DkAt σ2 G d D.count pf ps fv sv wv wc mw → Keep (dM d pf ps mw) (σ.bumpT 15) σ2 → ThenK mr (σ.bumpT 15) G (wM l mr d pf ps mw) l d L D.count (Q (.int .i64 e)) →
      Som (binA .eql .num (.int .i64 e) (.int .i64 0)) fun t21 => WIf t21 (Som (vNilck (.ptr l 0)) fun t23 => Som (vFieldAddr 5 t23) fun t24 => Som (vLoad1 t24 σ2) fun t25 => Som (vLenSl v) fun t27 => Som (binA .add .num t25 t27) fun t28 => Som (vNilck (.ptr l 0)) fun t29 => Som (vFieldAddr 5 t29) fun t30 =>
        Eff (storeW 1 t30 t28 σ2) fun _ σ3 => Ret [some (.int .i64 e)] σ3 Q) (Ret [some (.int .i64 e)] σ2 Q) := by
    intro σ2 e he hd2 k2 hR
    refine Som_of (bin_eql _ _ _ _) (WIf_f he ?_)
    rw [Ret_1 rfl]
    obtain ⟨w1, w2, w3⟩ := h1.setD hd2 k2 (Gr.refl _ _) (.inl rfl)
    exact hR σ2 G _ rv mr w1 (k2.mono fun x hx => ⟨.inr hx, fun e => h.ap x (.inr e) hx⟩) (Gr.refl _ _) w3
  refine Write_c ht k1.ok h1.dk hdk hwn hfile hv1 hpb hm hs hpl (fun σ2 ho2 hd2 k2 => fail σ2 11 (by omega) hd2 k2 (hO ho2)) (fun σ2 ho2 hbig hd2 k2 => fail σ2 1 (by omega) hd2 k2 (hA ho2 hbig)) (fun σ2 ho2 hsm hr hd2 k2 => fail σ2 10 (by omega) hd2 k2 (hF ho2 hsm hr)) fun σ2 G2 fv2 wv2 wc2 mw2 ho2 hsm hr hd2 k2 g2 l2 => ?_
  obtain ⟨⟨pf3, ps3, fv3, sv3, wv3, wc3, mw3, w1, e3⟩, w2, w3⟩ := h1.setD hd2 k2 g2 l2
  have hsz' := hsz hr
  refine Som_of (bin_eql _ _ _ _) (WIf_t rfl ?_)
  refine Som_of rfl (Som_of (vField0 _ _ _) (Som_of (ld w1.lg.blk rfl) (Som_of hv1.len (Som_of (bin_add _ _ _ _) (Som_of rfl (Som_of (vField0 _ _ _) ?_))))))
  have es : IntKind.i64.wrap ((L.size : Int) + (p.length : Int)) = ((L.size + p.length : Nat) : Int) := by
    rw [wrap_i64_in (n := (L.size : Int) + (p.length : Int)) (by omega) (by omega)]; omega
  rw [es]
  refine Eff_of (store1_of w1.lg.blk (by simp) rfl) ?_
  rw [Ret_1 rfl]
  obtain ⟨h4, k4⟩ := w1.lg.set k2.ok (L.grown p.length) rfl (cs := _) rfl
  have hw1 : WL σ2 G2 l d L (D.count.write L.file L.size p) rv mr (wM l mr d pf ps mw2) := ⟨pf3, ps3, fv3, sv3, wv3, wc3, mw3, w1, e3⟩
  obtain ⟨M4, w4, k4', s4⟩ := hw1.setL k2.ok h4 (k4.mono fun x e => .inl e) (Gr.refl _ _) (.inl rfl)
  have n2 := k2.next
  have k24 : Keep (fun x => wM l mr d pf ps mw x ∧ x ≠ mr) (σ.bumpT 15) _ := (k2.mono fun x hx => ⟨.inr hx, fun e => h.ap x (.inr e) hx⟩).trans (k4.mono fun x e => ⟨.inl (.inl e), fun e' => h.lg.n1 (by rw [← e, e'])⟩)
  refine hS ho2 hsm hr _ G2 M4 rv mr w4 k24 g2 (fun x hx => ?_)
  · rcases s4 x hx with h | h
    · exact w3 x h
    · right; omega
end
end Go.Am
namespace Go.Am
section
variable {tab : Nat → Option PFn} {σ : S} {Q : AVal → S → Prop} {G M : Nat → Prop} {l d : Pos} {L : Lg} {D : Dk} {rv : AVal} {mr : Nat}
noncomputable def Lg.hd (L : Lg) : Lg := if 0 < L.size then L else { L with age := max L.age 1 }
def begunF (L : Lg) : List Nat := if 0 < L.size then [] else putF [] (pay 0 (max L.age 1) L.first 0 [])
theorem begun_c (ht : Tab tab) (ho : Ok σ) (h : LgAt σ G l d L rv mr) (hok : LgOk L)
    (hQ : ∀ v m σ', LgAt σ' G l d L.hd rv mr → ByGr σ' v (begunF L) m → σ.next.nat ≤ m → Keep (fun x => x = l.nat) σ σ' → Q v σ') : WF tab 49 [.ptr l 0] σ Q := by
  refine f49_wf ht.t49 ?_
  unfold f49
  refine Som_of rfl (Som_of (vField0 _ _ _) (Som_of (ld h.blk rfl) (Som_of (bin_gtr _ _ _ _) ?_)))
  have hage := hok.age; have hf := hok.first
  refine WIf_dec (fun hp => ?_) (fun hz => ?_)
  · rw [Ret_1 rfl]
    refine hQ .nsl σ.next.nat σ ?_ ?_ (Nat.le_refl _) (Keep.refl ho)
    · unfold Lg.hd; rw [if_pos (by omega)]; exact h
    · unfold begunF; rw [if_pos (by omega)]; exact ByGr.nil _ _
  · have hz' : ¬ 0 < L.size := by omega
    have hmx : maxA (.int .i64 (L.age : Int)) [.int .i64 1] = some (.int .i64 ((max L.age 1 : Nat) : Int)) := max2 L.age 1
    refine Som_of rfl (Som_of (vField0 _ _ _) (Som_of (ld h.blk rfl) (Som_of hmx (Som_of rfl (Som_of (vField0 _ _ _) (Eff_of (store1_of h.blk (by simp) rfl) ?_))))))
    obtain ⟨h1, k1⟩ := h.set ho { L with age := max L.age 1 } rfl (cs := _) rfl
    have e1 : ([AVal.ptr d 0, .int .i64 (L.file : Int), .int .i64 (L.age : Int), .int .i64 (L.first : Int), rv, .int .i64 (L.size : Int), .int .i64 (L.live : Int)].set (0 + 2) (.int .i64 ((max L.age 1 : Nat) : Int))) = [.ptr d 0, .int .i64 (L.file : Int), .int .i64 ((max L.age 1 : Nat) : Int), .int .i64 (L.first : Int), rv, .int .i64 (L.size : Int), .int .i64 (L.live : Int)] := rfl
    rw [e1]
    have h1' : LgAt (σ.upd l ⟨0, .ex, [.ptr d 0, .int .i64 (L.file : Int), .int .i64 ((max L.age 1 : Nat) : Int), .int .i64 (L.first : Int), rv, .int .i64 (L.size : Int), .int .i64 (L.live : Int)]⟩) G l d { L with age := max L.age 1 } rv mr := h1
    have k1' : Keep (fun x => x = l.nat) σ (σ.upd l ⟨0, .ex, [.ptr d 0, .int .i64 (L.file : Int), .int .i64 ((max L.age 1 : Nat) : Int), .int .i64 (L.first : Int), rv, .int .i64 (L.size : Int), .int .i64 (L.live : Int)]⟩) := k1
    clear h1 k1
    generalize σ.upd l ⟨0, .ex, [.ptr d 0, .int .i64 (L.file : Int), .int .i64 ((max L.age 1 : Nat) : Int), .int .i64 (L.first : Int), rv, .int .i64 (L.size : Int), .int .i64 (L.live : Int)]⟩ = σ1 at *
    have k2 : Keep0 σ1 (σ1.bumpT 10) := Keep.bump k1'.ok 10
    have h2 := h1'.keep0 k2
    refine Som_of rfl (Som_of (vField0 _ _ _) (Som_of (ld h2.blk rfl) (Som_of rfl (Som_of (vField0 _ _ _) (Som_of (ld h2.blk rfl) ?_)))))
    have hmle : max L.age 1 ≤ 1152921504606846976 := by omega
    refine framed_c ht (kind := 0) (n := 0) (age := ((max L.age 1 : Nat) : Int)) (i := (L.first : Int)) k2.ok (BySl.nil _) ⟨by omega, by omega⟩ ⟨by omega, by omega⟩ ⟨by omega, by omega⟩ ⟨by omega, by omega⟩ Bytes.nil (by rw [List.length_nil]; omega) fun v σ3 m g3 k3 l3 _ => ?_
    rw [Ret_1 g3.sl.v1]
    have n1 := k1'.next; have n2 := k2.next
    refine hQ v m σ3 ?_ ?_ (by omega) ((k1'.trans (Keep0.to k2)).trans (Keep0.to k3))
    · unfold Lg.hd; rw [if_neg hz']; exact h2.keep0 k3
    · unfold begunF; rw [if_neg hz']
      have e2 : (((max L.age 1 : Nat) : Int)).toNat = max L.age 1 := by omega
      have e3 : ((L.first : Int)).toNat = L.first := by omega
      rw [e2, e3] at g3
      exact g3
def framesF (age : Nat) : Nat → List (List Nat) → List Nat
  | _, [] => []
  | i, r :: l => putF [] (pay 1 age i 0 r) ++ framesF age (i + 1) l
theorem putF_nil_len {age i kind n : Nat} {r : List Nat} (hk : kind < 4611686018427387904) (h2 : age < 4611686018427387904) (h3 : i < 4611686018427387904) (hn : n < 4611686018427387904) : (putF [] (pay kind age i n r)).length ≤ 48 + r.length := by
  unfold putF frameOf
  have := pay_len (kind := kind) (age := age) (i := i) (n := n) r hk h2 h3 hn
  split
  · rw [List.length_nil]; omega
  · simp only [List.length_append, List.length_nil, le4_len]; omega
theorem putF_nil_bytes {kind age i n : Nat} {r : List Nat} (hr : Bytes r) : Bytes (putF [] (pay kind age i n r)) := by
  unfold putF frameOf
  split
  · exact Bytes.nil
  · exact Bytes.nil.app ((le4_bytes _).app ((le4_bytes _).app (pay_bytes _ _ _ _ hr)))
theorem framesF_len {age i : Nat} {rs : List (List Nat)} (ha : age < 4611686018427387904) (hi : i + rs.length < 4611686018427387904) (hr : ∀ r ∈ rs, Bytes r ∧ r.length ≤ 20000) : (framesF age i rs).length ≤ rs.length * 20048 := by
  induction rs generalizing i with
  | nil => simp [framesF]
  | cons r rs ih =>
    show (putF [] (pay 1 age i 0 r) ++ framesF age (i + 1) rs).length ≤ (rs.length + 1) * 20048
    have h1 := putF_nil_len (kind := 1) (age := age) (i := i) (n := 0) (r := r) (by omega) ha (by rw [List.length_cons] at hi; omega) (by omega)
    have h2 := ih (i := i + 1) (by rw [List.length_cons] at hi; omega) fun x hx => hr x (List.mem_cons_of_mem _ hx)
    have h3 := (hr r List.mem_cons_self).2
    rw [List.length_append, Nat.add_mul]; omega
theorem framesF_bytes {age i : Nat} {rs : List (List Nat)} (hr : ∀ r ∈ rs, Bytes r ∧ r.length ≤ 20000) : Bytes (framesF age i rs) := by
  induction rs generalizing i with
  | nil => exact Bytes.nil
  | cons r rs ih => exact (putF_nil_bytes (hr r List.mem_cons_self).1).app (ih fun x hx => hr x (List.mem_cons_of_mem _ hx))
theorem begunF_bytes (L : Lg) : Bytes (begunF L) := by
  unfold begunF
  split
  · exact Bytes.nil
  · exact putF_nil_bytes Bytes.nil
theorem anew_loop (ht : Tab tab) (n : Nat) : ∀ (E : En) (σ : S) (t : Pos) (tc : List AVal) (age fr i : Nat) (v : AVal) (rs : List (List Nat)) (m : Nat) (bv : AVal) (bs : List Nat) (mb : Nat), Ok σ → σ.blk t = some ⟨0, .ex, tc⟩ → tc[2]? = some (.int .i64 (age : Int)) → SlAt σ v 1 rs.length (strs rs) m → (∀ r ∈ rs, Bytes r ∧ r.length ≤ 20000) →
    age ≤ 1152921504606846977 → fr ≤ 2199023255552 → rs.length ≤ 10000000 → i + n = rs.length → ByGr σ bv bs mb → bs.length + n * 20048 ≤ 800000000000 → (rs ≠ [] → m ≠ mb) → t.nat ≠ mb →
    E 7 = .ptr t 0 → E 8 = bv → E 1 = .int .i64 (fr : Int) → E 34 = v → E 35 = .int .i64 (rs.length : Int) → E 36 = .int .i64 (i : Int) → E 0 = .ptr l 0 → E 2 = v →
    (∀ E' σ' bv' mb', ByGr σ' bv' (bs ++ framesF age (fr + i) (rs.drop i)) mb' → Keep (fun x => x = mb) σ σ' → (mb' = mb ∨ σ.next.nat ≤ mb') → E' 7 = .ptr t 0 → E' 8 = bv' → E' 1 = .int .i64 (fr : Int) → E' 0 = .ptr l 0 → E' 2 = v → wC (WF tab) f45.c1 E' σ' (retK f45.res Q)) →
    f45.L0 (WF tab) Q E σ := by
  induction n with
  | zero =>
    intro E σ t tc age fr i v rs m bv bs mb ho htb htc hv hrs hage hfr hrl hi hb hbl hmm htm h7 h8 h1 h34 h35 h36 h0 h2 hK
    refine f45.p0_of ?_
    unfold f45.p0
    rw [h36, h35]
    refine Som_of (bin_lss _ _ _ _) ?_
    refine WIf_f (by omega) ?_
    refine hK _ σ bv mb ?_ (Keep.refl ho) (.inl rfl) (by simp [h7]) (by simp [h8]) (by simp [h1]) (by simp [h0]) (by simp [h2])
    rw [List.drop_of_length_le (by omega)]
    show ByGr σ bv (bs ++ []) mb
    rw [List.append_nil]; exact hb
  | succ n ih =>
    intro E σ t tc age fr i v rs m bv bs mb ho htb htc hv hrs hage hfr hrl hi hb hbl hmm htm h7 h8 h1 h34 h35 h36 h0 h2 hK
    refine f45.p0_of ?_
    unfold f45.p0
    rw [h36, h35, h34, h7, h1, h8]
    refine Som_of (bin_lss _ _ _ _) ?_
    refine WIf_t (by omega) ?_
    have hx : i < rs.length := by omega
    obtain ⟨q, q1, q2⟩ := hv.get1 (k := i) hx
    have hg : (strs rs)[i]? = some (.str rs[i]) := by
      show (rs.map AVal.str)[i]? = _
      rw [List.getElem?_map, List.getElem?_eq_getElem hx]; rfl
    have hri := hrs rs[i] (List.getElem_mem _)
    rw [hg] at q2
    refine Som_of q1 (Som_of q2 (Som_of (vField0 _ _ _) (Som_of (ld htb htc) (Som_of (bin_add _ _ _ _) ?_))))
    rw [wrap_i64_in (n := (fr : Int) + (i : Int)) (by omega) (by omega)]
    refine framed_c ht (kind := 1) (n := 0) (age := (age : Int)) (i := (fr : Int) + (i : Int)) ho (BySl.nil _) ⟨by omega, by omega⟩ ⟨by omega, by omega⟩ ⟨by omega, by omega⟩ ⟨by omega, by omega⟩ hri.1 (by rw [List.length_nil]; omega) fun w σ1 m1 g1 k1 l1 l1' => ?_
    have e1 : ((age : Int)).toNat = age := by omega
    have e2 : ((fr : Int) + (i : Int)).toNat = fr + i := by omega
    rw [e1, e2] at g1
    have g1 : ByGr σ1 w (putF [] (pay 1 age (fr + i) 0 rs[i])) m1 := g1
    have hpl := putF_nil_len (kind := 1) (age := age) (i := fr + i) (n := 0) (r := rs[i]) (by omega) (by omega) (by omega) (by omega)
    have hb1 := hb.keep (M := fun _ => False) (fun h => h) k1
    obtain ⟨w2, σ2, m2, a2, g2, k2, l2⟩ := append_sl k1.ok hb1 g1.sl (by rw [Nat.add_mul] at hbl; omega)
    refine Eff_of a2 (Som_of (bin_add _ _ _ _) ?_)
    rw [wrap_i64_in (n := (i : Int) + 1) (by omega) (by omega)]
    have n1 := k1.next
    have k02 : Keep (fun x => x = mb) σ σ2 := (Keep0.to k1).trans k2
    have hv2 := hv.keep (M := fun x => x = mb) (fun hz e => hmm (fun he => by subst he; simp at hz) e) k02
    have htb2 := k02.old _ _ htb htm
    have hmlt : rs ≠ [] → m < σ.next.nat := fun hne => SlAt.own_lt hv ho (by
      have := List.length_pos_iff.2 hne; omega)
    have htlt := ho.lt htb
    have hl2 : m2 = mb ∨ σ.next.nat ≤ m2 := by omega
    refine ih _ σ2 t tc age fr (i + 1) v rs m w2 (bs ++ putF [] (pay 1 age (fr + i) 0 rs[i])) m2 k02.ok htb2 htc hv2 hrs hage hfr hrl (by omega) g2 (by rw [List.length_append]; rw [Nat.add_mul] at hbl; omega) (fun hne => ?_) ?_ (by simp [h7]) (by simp) (by simp [h1]) (by simp [h34]) (by simp [h35]) (by simp) (by simp [h0]) (by simp [h2]) ?_
    · have := hmm hne; have := hmlt hne; rcases hl2 with e | e <;> omega
    · rcases hl2 with e | e <;> omega
    · intro E' σ' bv' mb' hb' k' l' e7 e8 e1' e0 e2'
      refine hK E' σ' bv' mb' ?_ (k02.then ho k' fun x hx e => ?_) (by have := k02.next; omega) e7 e8 e1' e0 e2'
      · rw [List.drop_eq_getElem_cons hx]
        show ByGr σ' bv' (bs ++ (putF [] (pay 1 age (fr + i) 0 rs[i]) ++ framesF age (fr + i + 1) (rs.drop (i + 1)))) mb'
        rw [List.append_assoc] at hb'
        exact hb'
      · rcases hl2 with e' | e' <;> omega
end
end Go.Am
namespace Go.Am
section
variable {tab : Nat → Option PFn} {σ : S} {Q : AVal → S → Prop} {G M : Nat → Prop} {l d : Pos} {L : Lg} {D : Dk} {rv : AVal} {mr : Nat}
structure Rel3 (σ : S) (G M : Nat → Prop) (σ' : S) (G' M' : Nat → Prop) : Prop where
  k : Keep M σ σ'
  g : Gr σ G G'
  s : Sub σ M M'
theorem Rel3.refl (ho : Ok σ) (G M : Nat → Prop) : Rel3 σ G M σ G M := ⟨Keep.refl ho, Gr.refl σ G, Sub.refl σ M⟩
theorem Rel3.trans {σ1 σ2 : S} {G1 G2 M1 M2 : Nat → Prop} (ho : Ok σ) (a : Rel3 σ G M σ1 G1 M1) (b : Rel3 σ1 G1 M1 σ2 G2 M2) : Rel3 σ G M σ2 G2 M2 := by
  have n1 := a.k.next
  refine ⟨a.k.then ho b.k fun x hx e => ?_, ⟨fun x hx => b.g.1 x (a.g.1 x hx), fun x hx hg => a.g.2 x hx (b.g.2 x (by omega) hg)⟩, fun x hx => ?_⟩
  · rcases a.s x e with h | h
    · exact h
    · omega
  · rcases b.s x hx with h | h
    · exact a.s x h
    · right; omega
theorem Rel3.keep0 {σ1 : S} (k : Keep0 σ σ1) (G M : Nat → Prop) : Rel3 σ G M σ1 G M := ⟨Keep0.to k, Gr.refl σ G, Sub.refl σ M⟩
theorem Then.go {R : S → Prop} (h : Then σ G M l d L D R) {σ' : S} {G' M' : Nat → Prop} {rv' : AVal} {mr' : Nat} (hw : WL σ' G' l d L D rv' mr' M') (r : Rel3 σ G M σ' G' M') : R σ' := h σ' G' M' rv' mr' hw r.k r.g r.s
theorem WlAt.back {σa σ' : S} {G1 G' : Nat → Prop} {t pf ps pf' ps' : Pos} {fv sv wc fv' sv' wc' : List AVal} {wv wv' : AVal} {mw sp mw' : Nat} {T' : Lg} {D' : Dk} {rvt : AVal} {mrt : Nat} (h : WlAt σ G l d L D rv mr pf ps fv sv wv wc mw) (ho : Ok σ) (k0 : Keep0 σ σa)
    (htt : σ.next.nat ≤ t.nat) (hsp : σ.next.nat ≤ sp) (g1 : Gr σ G G1) (hL : LgAt σa G1 l d L rv mr) (hw : WlAt σ' G' t d T' D' rvt mrt pf' ps' fv' sv' wv' wc' mw') (r : Rel3 σa G1 (wM t sp d pf ps mw) σ' G' (wM t mrt d pf' ps' mw')) :
    WlAt σ' G' l d L D' rv mr pf' ps' fv' sv' wv' wc' mw' ∧ Rel3 σ G (wM l mr d pf ps mw) σ' G' (wM l mr d pf' ps' mw') := by
  have n0 := k0.next
  have hlt : ∀ x, lM l mr x → x < σ.next.nat := fun x hx => by
    rcases hx with hx | hx
    · rw [hx]; exact h.lg.gl _ h.lg.g1
    · rw [hx]; exact h.lg.gl _ h.lg.g2
  have hno : ∀ x, lM l mr x → ¬ wM t sp d pf ps mw x := fun x hx hm => by
    have := hlt x hx
    rcases hm with hm | hm
    · rcases hm with hm | hm <;> omega
    · exact h.ap x hx hm
  refine ⟨⟨hL.move r.k hno r.g hw.lg.gl, hw.dk, fun x hx hd => ?_⟩, ⟨?_, ⟨fun x hx => r.g.1 x (g1.1 x hx), fun x hx hg => g1.2 x hx (r.g.2 x (by omega) hg)⟩, fun x hx => ?_⟩⟩
  · rcases r.s x (.inr hd) with hh | hh
    · exact hno x hx hh
    · have := hlt x hx; omega
  · refine (Keep0.to (M := wM l mr d pf ps mw) k0).then ho r.k fun x hx hm => ?_
    rcases hm with hm | hm
    · rcases hm with hm | hm <;> omega
    · exact .inr hm
  · rcases hx with hx | hx
    · exact .inl (.inl hx)
    · rcases r.s x (.inr hx) with hh | hh
      · rcases hh with hh | hh
        · right; rcases hh with hh | hh <;> omega
        · exact .inl (.inr hh)
      · right; omega
theorem WL.back {σa σ' : S} {G1 G' Mt' : Nat → Prop} {t pf ps : Pos} {fv sv wc : List AVal} {wv : AVal} {mw sp : Nat} {T' : Lg} {D' : Dk} {rvt : AVal} {mrt : Nat} (h : WlAt σ G l d L D rv mr pf ps fv sv wv wc mw) (ho : Ok σ) (k0 : Keep0 σ σa)
    (htt : σ.next.nat ≤ t.nat) (hsp : σ.next.nat ≤ sp) (g1 : Gr σ G G1) (hL : LgAt σa G1 l d L rv mr) (hw : WL σ' G' t d T' D' rvt mrt Mt') (r : Rel3 σa G1 (wM t sp d pf ps mw) σ' G' Mt') :
    ∃ M'', WL σ' G' l d L D' rv mr M'' ∧ Rel3 σ G (wM l mr d pf ps mw) σ' G' M'' := by
  obtain ⟨pf', ps', fv', sv', wv', wc', mw', hw, e⟩ := hw
  subst e
  obtain ⟨b1, b2⟩ := h.back ho k0 htt hsp g1 hL hw r
  exact ⟨_, ⟨pf', ps', fv', sv', wv', wc', mw', b1, rfl⟩, b2⟩
theorem wsync_c (ht : Tab tab) (ho : Ok σ) (h : WL σ G l d L D rv mr M) (hdk : DkOk D)
    (hO : ∀ σ' M', D.count.off = true → WL σ' G l d L D.count rv mr M' → Rel3 σ G M σ' G M' → Q (.int .i64 11) σ')
    (hS : ∀ σ' M', D.count.off = false → WL σ' G l d L D.count.sync rv mr M' → Rel3 σ G M σ' G M' → Q (.int .i64 0) σ') : WF tab 44 [.ptr d 0] σ Q := by
  obtain ⟨pf, ps, fv, sv, wv, wc, mw, h, e⟩ := h
  subst e
  refine Sync_c ht ho h.dk hdk (fun σ' ho' hd k => ?_) (fun σ' ho' hd k => ?_)
  · obtain ⟨w1, w2, w3⟩ := h.setD hd k (Gr.refl _ _) (.inl rfl)
    exact hO σ' _ ho' w1 ⟨w2, Gr.refl _ _, w3⟩
  · obtain ⟨w1, w2, w3⟩ := h.setD hd k (Gr.refl _ _) (.inl rfl)
    exact hS σ' _ ho' w1 ⟨w2, Gr.refl _ _, w3⟩
theorem wcut_c (ht : Tab tab) (ho : Ok σ) (h : WL σ G l d L D rv mr M) (hdk : DkOk D) (hwn : D.wait.length < 1000000000) {k n : Nat} (hk : k < 64) (hn : n ≤ (D.file k).length)
    (hO : ∀ σ' M', D.count.off = true → WL σ' G l d L D.count rv mr M' → Rel3 σ G M σ' G M' → Q (.int .i64 11) σ')
    (hS : ∀ σ' G' M', D.count.off = false → WL σ' G' l d L (D.count.cutF k n) rv mr M' → Rel3 σ G M σ' G' M' → Q (.int .i64 0) σ') : WF tab 43 [.ptr d 0, .int .i64 (k : Int), .int .i64 (n : Int)] σ Q := by
  obtain ⟨pf, ps, fv, sv, wv, wc, mw, h, e⟩ := h
  subst e
  refine Cut_c ht ho h.dk hdk hwn hk hn (fun σ' ho' hd k => ?_) (fun σ' G' fv' wv' wc' mw' ho' hd k g lm => ?_)
  · obtain ⟨w1, w2, w3⟩ := h.setD hd k (Gr.refl _ _) (.inl rfl)
    exact hO σ' _ ho' w1 ⟨w2, Gr.refl _ _, w3⟩
  · obtain ⟨w1, w2, w3⟩ := h.setD hd k g lm
    exact hS σ' G' _ ho' w1 ⟨w2, g, w3⟩
end
end Go.Am
namespace Go.Am
section
variable {tab : Nat → Option PFn} {σ : S} {Q : AVal → S → Prop} {G M : Nat → Prop} {l d : Pos} {L : Lg} {D : Dk} {rv : AVal} {mr : Nat}
theorem Dk.file_held (D : Dk) (k : Nat) : (D.file k).length ≤ D.held := by
  unfold Dk.file Dk.held
  rw [List.getD_eq_getElem?_getD]
  cases h : D.files[k]? with
  | none => exact Nat.zero_le _
  | some f => exact sumL_mem h
def anewB (age fr : Nat) (rs : List (List Nat)) : List Nat := putF [] (pay 0 age fr rs.length []) ++ framesF age fr rs
theorem anewB_bytes {age fr : Nat} {rs : List (List Nat)} (hr : ∀ r ∈ rs, Bytes r ∧ r.length ≤ 20000) : Bytes (anewB age fr rs) := (putF_nil_bytes Bytes.nil).app (framesF_bytes hr)
def Lg.anew (L : Lg) (fr : Nat) (rs : List (List Nat)) : Lg := Lg.keep ⟨17 - L.file, L.age + 1, fr, [], (anewB (L.age + 1) fr rs).length, 0⟩ fr rs
def Dk.an1 (D : Dk) (L : Lg) (fr : Nat) (rs : List (List Nat)) : Dk := (D.count.write (17 - L.file) 0 (anewB (L.age + 1) fr rs)).count
def Dk.an2 (D : Dk) (L : Lg) (fr : Nat) (rs : List (List Nat)) : Dk := (D.an1 L fr rs).sync.count
def Dk.an3 (D : Dk) (L : Lg) (fr : Nat) (rs : List (List Nat)) : Dk := ((D.an2 L fr rs).cutF L.file 0).count
theorem WlAt.over {σ6 : S} {G6 : Nat → Prop} {t pf ps : Pos} {fv sv wc : List AVal} {wv : AVal} {mw : Nat} {T' : Lg} {D8 : Dk} {rvt : AVal} {mrt : Nat} (ho : Ok σ6) (hw : WlAt σ6 G6 t d T' D8 rvt mrt pf ps fv sv wv wc mw) (hl : WlAt σ6 G6 l d L D8 rv mr pf ps fv sv wv wc mw) (hne : mrt ≠ l.nat)
    (hsub : M mrt ∨ σ.next.nat ≤ mrt) (hr : Rel3 σ G M σ6 G6 (wM l mr d pf ps mw)) (hml : M l.nat)
    (hfin : Then σ G M l d T' D8 (Q (.int .i64 0))) :
    Som (vLoadN 7 (.ptr t 0) σ6) fun t86 => Som (vNilck (.ptr l 0)) fun t87 => Eff (storeW 7 t87 t86 σ6) fun _ σ7 => Ret [some (.int .i64 0)] σ7 Q := by
  refine Som_of (ldN (n := 7) hw.lg.blk (by simp) rfl) (Som_of rfl (Eff_of (storeN_of hl.lg.blk rfl (by omega) (by simp)) ?_))
  rw [Ret_1 rfl]
  have k7 : Keep (fun x => x = l.nat) σ6 (σ6.upd l ⟨0, .ex, [.ptr d 0, .int .i64 (T'.file : Int), .int .i64 (T'.age : Int), .int .i64 (T'.first : Int), rvt, .int .i64 (T'.size : Int), .int .i64 (T'.live : Int)]⟩) := Keep.upd ho hl.lg.blk rfl
  have hdl : ∀ x, dM d pf ps mw x → ¬ x = l.nat := fun x hx e => hl.ap x (.inl e) hx
  have hlg : LgAt (σ6.upd l ⟨0, .ex, [.ptr d 0, .int .i64 (T'.file : Int), .int .i64 (T'.age : Int), .int .i64 (T'.first : Int), rvt, .int .i64 (T'.size : Int), .int .i64 (T'.live : Int)]⟩) G6 l d T' rvt mrt :=
    ⟨blk_upd_same _ _, hw.lg.rg.keep hne k7, hne, hl.lg.g1, hw.lg.g2, fun x hx => hl.lg.gl x hx⟩
  have hdk := hl.dk.keep k7 (fun x e => by rw [e]; exact hl.lg.g1) hdl
  have hw7 : WlAt (σ6.upd l ⟨0, .ex, [.ptr d 0, .int .i64 (T'.file : Int), .int .i64 (T'.age : Int), .int .i64 (T'.first : Int), rvt, .int .i64 (T'.size : Int), .int .i64 (T'.live : Int)]⟩) G6 l d T' D8 rvt mrt pf ps fv sv wv wc mw :=
    ⟨hlg, hdk, fun x hx => by
      rcases hx with hx | hx
      · exact hl.ap x (.inl hx)
      · exact hw.ap x (.inr hx)⟩
  refine hfin _ G6 (wM l mrt d pf ps mw) rvt mrt ⟨pf, ps, fv, sv, wv, wc, mw, hw7, rfl⟩ (hr.k.trans (k7.mono fun x e => by rw [e]; exact hml)) hr.g fun x hx => ?_
  rcases hx with hx | hx
  · rcases hx with hx | hx
    · exact hr.s x (.inl (.inl hx))
    · rw [hx]; exact hsub
  · exact hr.s x (.inr hx)
end
end Go.Am
namespace Go.Am
section
variable {tab : Nat → Option PFn} {σ : S} {Q : AVal → S → Prop} {G M : Nat → Prop} {l d : Pos} {L : Lg} {D : Dk} {rv : AVal} {mr : Nat}
theorem room_len (hdk : DkOk D) {k a n : Nat} (h : D.room k a n) (ha : a ≤ 1048576) : a + n ≤ 3200000 := by
  unfold Dk.room at h
  have h1 := Dk.file_ok hdk k
  have h2 := D.file_held k
  have h3 := hdk.q
  omega
theorem anewB_len {age fr : Nat} {rs : List (List Nat)} (ha : age < 4611686018427387904) (hf : fr ≤ 2199023255552) (hl : rs.length ≤ 10000000) (hr : ∀ r ∈ rs, Bytes r ∧ r.length ≤ 20000) : (anewB age fr rs).length ≤ 48 + rs.length * 20048 := by
  unfold anewB
  have h1 := putF_nil_len (kind := 0) (age := age) (i := fr) (n := rs.length) (r := []) (by omega) ha (by omega) (by omega)
  have h2 := framesF_len (age := age) (i := fr) (rs := rs) ha (by omega) hr
  rw [List.length_nil] at h1
  rw [List.length_append]; omega
theorem anew_c (ht : Tab tab) (ho : Ok σ) (h : WL σ G l d L D rv mr M) (hok : LgOk L) (hdk : DkOk D) (hwn : D.wait.length + 10 < 1000000000) (hfile : L.file = 8 ∨ L.file = 9) {v : AVal} {rs : List (List Nat)} {m fr : Nat} (hv : SlAt σ v 1 rs.length (strs rs) m) (hm : rs ≠ [] → m = mr)
    (hrs : ∀ r ∈ rs, Bytes r ∧ r.length ≤ 20000) (hfr : fr ≤ 2199023255552) (hrl : rs.length ≤ 10000000) (hage : L.age < 1152921504606846976)
    (hO1 : D.count.off = true → Then σ G M l d L D.count (Q (.int .i64 11)))
    (hF : D.count.off = false → ¬ D.count.room (17 - L.file) 0 (anewB (L.age + 1) fr rs).length → Then σ G M l d L D.count (Q (.int .i64 10)))
    (hO2 : D.count.off = false → D.count.room (17 - L.file) 0 (anewB (L.age + 1) fr rs).length → (D.an1 L fr rs).off = true → Then σ G M l d L (D.an1 L fr rs) (Q (.int .i64 11)))
    (hO3 : D.count.off = false → D.count.room (17 - L.file) 0 (anewB (L.age + 1) fr rs).length → (D.an1 L fr rs).off = false → (D.an2 L fr rs).off = true → Then σ G M l d L (D.an2 L fr rs) (Q (.int .i64 11)))
    (hO4 : D.count.off = false → D.count.room (17 - L.file) 0 (anewB (L.age + 1) fr rs).length → (D.an1 L fr rs).off = false → (D.an2 L fr rs).off = false → (D.an3 L fr rs).off = true → Then σ G M l d L (D.an3 L fr rs) (Q (.int .i64 11)))
    (hS : D.count.off = false → D.count.room (17 - L.file) 0 (anewB (L.age + 1) fr rs).length → (D.an1 L fr rs).off = false → (D.an2 L fr rs).off = false → (D.an3 L fr rs).off = false → Then σ G M l d (L.anew fr rs) (D.an3 L fr rs).sync (Q (.int .i64 0))) :
    WF tab 45 [.ptr l 0, .int .i64 (fr : Int), v] σ Q := by
  refine f45_wf ht.t45 ?_
  unfold f45
  obtain ⟨pf, ps, fv, sv, wv, wc, mw, h, eM⟩ := h
  subst eM
  have k1 : Keep0 σ (σ.bumpT 18) := Keep.bump ho 18
  have n1 := next_bump (σ := σ) 18
  have h1 := h.lg.keep0 k1
  refine Som_of rfl (Som_of (vField0 _ _ _) (Som_of (ld h1.blk rfl) (Som_of rfl (Som_of (vField0 _ _ _) (Som_of (ld h1.blk rfl) (Som_of (bin_sub _ _ _ _) (Som_of rfl (Som_of (vField0 _ _ _) (Som_of (ld h1.blk rfl) (Som_of (bin_add _ _ _ _) ?_))))))))))
  have ef : IntKind.i64.wrap ((17 : Int) - (L.file : Int)) = ((17 - L.file : Nat) : Int) := by
    rw [wrap_i64_in (n := (17 : Int) - (L.file : Int)) (by omega) (by omega)]; omega
  have ea : IntKind.i64.wrap ((L.age : Int) + 1) = ((L.age + 1 : Nat) : Int) := by
    rw [wrap_i64_in (n := (L.age : Int) + 1) (by omega) (by omega)]; omega
  rw [ef, ea]
  have hbd : vBuild [AVal.nptr, .int .i64 0, .int .i64 0, .int .i64 0, .nsl, .int .i64 0, .int .i64 0] [(0, 1, .ptr d 0), (1, 1, .int .i64 ((17 - L.file : Nat) : Int)), (2, 1, .int .i64 ((L.age + 1 : Nat) : Int)), (3, 1, .int .i64 (fr : Int))] =
    some (.agg [.ptr d 0, .int .i64 ((17 - L.file : Nat) : Int), .int .i64 ((L.age + 1 : Nat) : Int), .int .i64 (fr : Int), .nsl, .int .i64 0, .int .i64 0]) := rfl
  refine Som_of hbd (Alb_of rfl ?_)
  have pt : (Pos.plusT 16 σ.next).nat = σ.next.nat + 16 := plusT_nat 16 _
  have hun : Unused (σ.bumpT 18) (Pos.plusT 16 σ.next) := ho.free _ (by omega)
  obtain ⟨k2, _, _⟩ := Keep.layD k1 ⟨0, .ex, [.nptr, .int .i64 0, .int .i64 0, .int .i64 0, .nsl, .int .i64 0, .int .i64 0]⟩ hun (by omega) (by omega)
  have b2 : ((σ.bumpT 18).lay (Pos.plusT 16 σ.next) (Blk.named ⟨0, .ex, [.nptr, .int .i64 0, .int .i64 0, .int .i64 0, .nsl, .int .i64 0, .int .i64 0]⟩ (Pos.plusT 16 σ.next))).blk (Pos.plusT 16 σ.next) = some ⟨0, .ex, [.nptr, .int .i64 0, .int .i64 0, .int .i64 0, .nsl, .int .i64 0, .int .i64 0]⟩ := by rw [blk_lay, if_pos rfl]; rfl
  have x2 := next_lay (σ := σ.bumpT 18) (Pos.plusT 16 σ.next) (Blk.named ⟨0, .ex, [.nptr, .int .i64 0, .int .i64 0, .int .i64 0, .nsl, .int .i64 0, .int .i64 0]⟩ (Pos.plusT 16 σ.next))
  generalize (σ.bumpT 18).lay (Pos.plusT 16 σ.next) (Blk.named ⟨0, .ex, [.nptr, .int .i64 0, .int .i64 0, .int .i64 0, .nsl, .int .i64 0, .int .i64 0]⟩ (Pos.plusT 16 σ.next)) = σ2 at *
  have n2 : σ2.next.nat = σ.next.nat + 18 := by rw [x2]; exact n1
  generalize Pos.plusT 16 σ.next = t at *
  refine Eff_of (storeN_of (xs := [.ptr d 0, .int .i64 ((17 - L.file : Nat) : Int), .int .i64 ((L.age + 1 : Nat) : Int), .int .i64 (fr : Int), .nsl, .int .i64 0, .int .i64 0]) b2 rfl (by omega) (by simp)) ?_
  have k3 : Keep (fun x => x = t.nat) σ2 (σ2.upd t ⟨0, .ex, [.ptr d 0, .int .i64 ((17 - L.file : Nat) : Int), .int .i64 ((L.age + 1 : Nat) : Int), .int .i64 (fr : Int), .nsl, .int .i64 0, .int .i64 0]⟩) := Keep.upd k2.ok b2 rfl
  have b3 : (σ2.upd t ⟨0, .ex, [.ptr d 0, .int .i64 ((17 - L.file : Nat) : Int), .int .i64 ((L.age + 1 : Nat) : Int), .int .i64 (fr : Int), .nsl, .int .i64 0, .int .i64 0]⟩).blk t = some ⟨0, .ex, [.ptr d 0, .int .i64 ((17 - L.file : Nat) : Int), .int .i64 ((L.age + 1 : Nat) : Int), .int .i64 (fr : Int), .nsl, .int .i64 0, .int .i64 0]⟩ := blk_upd_same _ _
  have n3 : (σ2.upd t ⟨0, .ex, [.ptr d 0, .int .i64 ((17 - L.file : Nat) : Int), .int .i64 ((L.age + 1 : Nat) : Int), .int .i64 (fr : Int), .nsl, .int .i64 0, .int .i64 0]⟩).next = σ2.next := rfl
  rw [show ([AVal.nptr, .int .i64 0, .int .i64 0, .int .i64 0, .nsl, .int .i64 0, .int .i64 0].take 0 ++ [.ptr d 0, .int .i64 ((17 - L.file : Nat) : Int), .int .i64 ((L.age + 1 : Nat) : Int), .int .i64 (fr : Int), .nsl, .int .i64 0, .int .i64 0] ++ [AVal.nptr, .int .i64 0, .int .i64 0, .int .i64 0, .nsl, .int .i64 0, .int .i64 0].drop (0 + 7)) =
    [.ptr d 0, .int .i64 ((17 - L.file : Nat) : Int), .int .i64 ((L.age + 1 : Nat) : Int), .int .i64 (fr : Int), .nsl, .int .i64 0, .int .i64 0] from rfl]
  generalize σ2.upd t ⟨0, .ex, [.ptr d 0, .int .i64 ((17 - L.file : Nat) : Int), .int .i64 ((L.age + 1 : Nat) : Int), .int .i64 (fr : Int), .nsl, .int .i64 0, .int .i64 0]⟩ = σ3 at *
  have k03 : Keep0 σ σ3 := k2.then ho k3 fun x hx e => by omega
  have n3' : σ3.next.nat = σ.next.nat + 18 := by rw [n3]; exact n2
  have g1 : Gr σ G (fun x => G x ∨ x = t.nat ∨ x = σ.next.nat) := ⟨fun x hx => .inl hx, fun x hx hg => by
    rcases hg with hg | hg | hg
    · exact hg
    · omega
    · omega⟩
  have gl3 : ∀ x, (G x ∨ x = t.nat ∨ x = σ.next.nat) → x < σ3.next.nat := fun x hx => by
    rcases hx with hx | hx | hx
    · have := h.lg.gl x hx; omega
    · omega
    · omega
  have hT : WlAt σ3 (fun x => G x ∨ x = t.nat ∨ x = σ.next.nat) t d ⟨17 - L.file, L.age + 1, fr, [], 0, 0⟩ D .nsl σ.next.nat pf ps fv sv wv wc mw := by
    refine ⟨⟨b3, GrAt.nil _ 1 _, by omega, .inr (.inl rfl), .inr (.inr rfl), gl3⟩, h.dk.move ho k03 (fun _ h => h.elim) (fun _ _ h => h.elim) g1 gl3, fun x hx hd => ?_⟩
    have hlt : x < σ.next.nat := by
      rcases hd with hd | hd | hd | hd
      · rw [hd]; exact h.dk.gl _ h.dk.g1
      · rw [hd]; exact h.dk.gl _ h.dk.g2
      · rw [hd]; exact h.dk.gl _ h.dk.g3
      · rw [hd]; exact h.dk.gl _ h.dk.g4
    rcases hx with hx | hx <;> omega
  have hL3 : LgAt σ3 (fun x => G x ∨ x = t.nat ∨ x = σ.next.nat) l d L rv mr := h.lg.move k03 (fun _ _ h => h.elim) g1 gl3
  have hv3 := hv.keep (M := fun _ => False) (fun _ h => h) k03
  refine Som_of (vField0 _ _ _) (Som_of (ld b3 rfl) (Som_of hv3.len ?_))
  refine framed_c ht (kind := 0) (age := ((L.age + 1 : Nat) : Int)) (i := (fr : Int)) (n := (rs.length : Int)) k03.ok (BySl.nil _) ⟨by omega, by omega⟩ ⟨by omega, by omega⟩ ⟨by omega, by omega⟩ ⟨by omega, by omega⟩ Bytes.nil (by rw [List.length_nil]; omega) fun bv σ4 mb g4 k4 l4 l4' => ?_
  have e1 : (((L.age + 1 : Nat) : Int)).toNat = L.age + 1 := by omega
  have e2 : ((fr : Int)).toNat = fr := by omega
  have e3 : ((rs.length : Int)).toNat = rs.length := by omega
  rw [e1, e2, e3] at g4
  have g4 : ByGr σ4 bv (putF [] (pay 0 (L.age + 1) fr rs.length [])) mb := g4
  have hv4 := hv3.keep (M := fun _ => False) (fun _ h => h) k4
  have b4 := k4.old _ _ b3 (fun h => h)
  have hmlt : rs ≠ [] → m < σ.next.nat := fun hne => SlAt.own_lt hv ho (by have := List.length_pos_iff.2 hne; omega)
  have hpl := putF_nil_len (kind := 0) (age := L.age + 1) (i := fr) (n := rs.length) (r := []) (by omega) (by omega) (by omega) (by omega)
  rw [List.length_nil] at hpl
  refine Som_of hv4.len ?_
  have hlen := anewB_len (age := L.age + 1) (fr := fr) (rs := rs) (by omega) hfr hrl hrs
  refine anew_loop (l := l) ht rs.length _ σ4 t _ (L.age + 1) fr 0 v rs m bv _ mb k4.ok b4 rfl hv4 hrs (by omega) hfr hrl (by omega) g4 (by omega) (fun hne => by have := hmlt hne; omega) (by omega) (by simp) (by simp) (by simp) (by simp) (by simp) (by simp) (by simp) (by simp) ?_
  intro E σ5 bv' mb' g5 k5 l5 e7 e8 e1 e0 e2
  have g5 : ByGr σ5 bv' (anewB (L.age + 1) fr rs) mb' := g5
  have n4 := k4.next
  have k35 : Keep0 σ3 σ5 := k4.then k03.ok k5 fun x hx e => by omega
  have hT5 : WL σ5 (fun x => G x ∨ x = t.nat ∨ x = σ.next.nat) t d ⟨17 - L.file, L.age + 1, fr, [], 0, 0⟩ D .nsl σ.next.nat (wM t σ.next.nat d pf ps mw) := WL.keep0 ⟨pf, ps, fv, sv, wv, wc, mw, hT, rfl⟩ k35
  have hL5 := hL3.keep0 k35
  have k05 : Keep0 σ σ5 := k03.trans k35
  have hv5 := hv.keep (M := fun _ => False) (fun _ h => h) k05
  have hmb : anewB (L.age + 1) fr rs ≠ [] → ¬ (G mb' ∨ mb' = t.nat ∨ mb' = σ.next.nat) := fun _ hg => by
    have := gl3 mb' hg; omega
  have hpb := anewB_bytes (age := L.age + 1) (fr := fr) hrs
  generalize hp : anewB (L.age + 1) fr rs = p at *
  -- back to the log that was
  have back : ∀ {σ' : S} {G' Mt' : Nat → Prop} {T' : Lg} {D' : Dk} {rvt : AVal} {mrt : Nat}, WL σ' G' t d T' D' rvt mrt Mt' → Rel3 σ5 (fun x => G x ∨ x = t.nat ∨ x = σ.next.nat) (wM t σ.next.nat d pf ps mw) σ' G' Mt' → ∃ M'', WL σ' G' l d L D' rv mr M'' ∧ Rel3 σ G (wM l mr d pf ps mw) σ' G' M'' :=
    fun hw r => WL.back h ho k05 (by omega) (Nat.le_refl _) g1 hL5 hw r
  refine f45.p1_of ?_
  unfold f45.p1
  rw [e7, e8, e1, e0, e2]
  have hok1 := hdk.count
  have wn1 : D.count.wait.length + 10 < 1000000000 := by rw [Dk.count_wait]; exact hwn
  have hfl : 17 - L.file < 64 := by omega
  have fail : ∀ (e : Int) (D' : Dk), e ≠ 0 → Then σ G (wM l mr d pf ps mw) l d L D' (Q (.int .i64 e)) → ∀ (R : S → Prop), ThenK σ.next.nat σ5 (fun x => G x ∨ x = t.nat ∨ x = σ.next.nat) (wM t σ.next.nat d pf ps mw) t d ⟨17 - L.file, L.age + 1, fr, [], 0, 0⟩ D' (fun σ' => Som (binA .neq .num (.int .i64 e) (.int .i64 0)) fun t54 => WIf t54 (Ret [some (.int .i64 e)] σ' Q) (R σ')) := by
    intro e D' he hR R σ' G' M' rvt mrt hw k g s
    refine Som_of (bin_neq _ _ _ _) (WIf_t he ?_)
    rw [Ret_1 rfl]
    obtain ⟨M'', b1, b2⟩ := back hw ⟨k.mono fun x hx => hx.1, g, s⟩
    exact hR.go b1 b2
  refine put_lc ht k05.ok hT5 ⟨by show L.age + 1 ≤ _; omega, by show fr ≤ _; omega, fun r hr => (by cases hr), Nat.zero_le _, Nat.zero_le _, Nat.zero_le _⟩ hdk (by omega) hfl g5.sl hpb hmb (by omega) (fun hr => by have := room_len hok1 hr (by show 0 ≤ _; omega); show 0 + p.length ≤ _; omega)
    (fun hoff => fail 11 _ (by omega) (hO1 hoff) _) (fun _ hbig => absurd hbig (by show ¬ 0 > _; omega)) (fun hoff _ hr => fail 10 _ (by omega) (hF hoff hr) _) ?_
  intro hoff _ hroom σ6 G6 M6 rv6 mr6 hw6 k6 g6 s6
  have k6 := k6.mono (N := wM t σ.next.nat d pf ps mw) fun x hx => hx.1
  have hroom : D.count.room (17 - L.file) 0 p.length := hroom
  have r6 : Rel3 σ5 (fun x => G x ∨ x = t.nat ∨ x = σ.next.nat) (wM t σ.next.nat d pf ps mw) σ6 G6 M6 := ⟨k6, g6, s6⟩
  refine Som_of (bin_neq _ _ _ _) (WIf_f (by omega) ?_)
  -- the records
  have hmno : rs ≠ [] → ¬ wM t σ.next.nat d pf ps mw m := fun hne hm' => by
    have := hmlt hne
    rcases hm' with hm' | hm'
    · rcases hm' with hm' | hm' <;> omega
    · exact h.ap m (.inr (hm hne)) hm'
  have hv6 := hv5.keep (M := wM t σ.next.nat d pf ps mw) (fun hz => hmno (fun he => by subst he; simp at hz)) k6
  have hT1 : LgOk (Lg.grown ⟨17 - L.file, L.age + 1, fr, [], 0, 0⟩ p.length) := ⟨by show L.age + 1 ≤ _; omega, by show fr ≤ _; omega, fun r hr => (by cases hr), Nat.zero_le _, by show 0 + p.length ≤ _; have := room_len hok1 hroom (by omega); omega, Nat.zero_le _⟩
  refine keep_c ht k6.ok hw6.lg hT1 hv6 (fun hne e => by have := hmlt hne; omega) hrs hfr (by omega) fun _ σ7 G7 rv7 mr7 h7 k7 g7 l7 => ?_
  obtain ⟨M7, hw7, k7', s7⟩ := hw6.setL k6.ok h7 (k7.mono fun x e => .inl e) g7 l7
  have r7 := r6.trans k05.ok ⟨k7', g7, s7⟩
  have hTan : Lg.keep (Lg.grown ⟨17 - L.file, L.age + 1, fr, [], 0, 0⟩ p.length) fr rs = L.anew fr rs := by
    unfold Lg.anew Lg.grown
    rw [hp, Nat.zero_add]
  rw [hTan] at hw7
  have hk8 : Keep0 σ7 (σ7.bumpT 26) := Keep.bump k7.ok 26
  have hw8 := hw7.keep0 hk8
  have r8 := r7.trans k05.ok (Rel3.keep0 hk8 G7 M7)
  obtain ⟨M8, hl8, rl8⟩ := back hw8 r8
  refine Som_of rfl (Som_of (vField0 _ _ _) (Som_of (ld hl8.lg.blk rfl) ?_))
  have hD2 : DkOk (D.count.write (17 - L.file) 0 p) := hok1.write hfl (by omega) hroom (Dk.file_held _ _) hpb (by omega)
  have wn2 : (D.count.write (17 - L.file) 0 p).wait.length + 9 < 1000000000 := by
    show (D.count.wait ++ [_]).length + 9 < _
    rw [List.length_append]; show D.count.wait.length + 1 + 9 < _; omega
  have ean1 : (D.count.write (17 - L.file) 0 p).count = D.an1 L fr rs := by unfold Dk.an1; rw [hp]
  refine wsync_c ht hk8.ok hw8 hD2 (fun σ9 M9 hof hw9 r9 => ?_) (fun σ9 M9 hof hw9 r9 => ?_)
  · rw [ean1] at hof hw9
    refine Som_of (bin_neq _ _ _ _) ?_
    rw [decide_eq_true (show (11 : Int) ≠ 0 by omega)]
    refine Som_of rfl (Som_of rfl (Som_of rfl (Som_of rfl (Som_of rfl (Som_of rfl (Som_of rfl (Som_of rfl (GE_n rfl (Som_of rfl (Som_of rfl ?_))))))))))
    refine Som_of rfl (Som_of rfl (Som_of rfl (Som_of rfl (GE_n rfl (Som_of rfl (Som_of rfl ?_))))))
    rw [WIf_true, Ret_1 rfl]
    obtain ⟨M'', b1, b2⟩ := back hw9 (r8.trans k05.ok r9)
    exact (hO2 hoff hroom hof).go b1 b2
  rw [ean1] at hof hw9
  have r9' := r8.trans k05.ok r9
  obtain ⟨M9l, hl9, rl9⟩ := back hw9 r9'
  refine Som_of (bin_neq _ _ _ _) ?_
  rw [decide_eq_false (show ¬ (0 : Int) ≠ 0 by omega)]
  refine Som_of rfl (Sq_of rfl rfl (Sq_of rfl (vField0 _ _ _) (Sq_of rfl (ld hl9.lg.blk rfl) (Som_of rfl (Sq_of rfl rfl (Sq_of rfl (vField0 _ _ _) (Sq_of rfl (ld hl9.lg.blk rfl) (GE_t rfl ?_))))))))
  have hok1' : DkOk (D.an1 L fr rs) := by rw [← ean1]; exact hD2.count
  have hD4 : DkOk (D.an1 L fr rs).sync := hok1'.sync
  have ean2 : (D.an1 L fr rs).sync.count = D.an2 L fr rs := rfl
  have hf64 : L.file < 64 := by omega
  refine wcut_c ht r9.k.ok hw9 hD4 (by show 0 < _; omega) (n := 0) hf64 (Nat.zero_le _) (fun σ10 M10 hof2 hw10 r10 => ?_) (fun σ10 G10 M10 hof2 hw10 r10 => ?_)
  · rw [ean2] at hof2 hw10
    refine Sq_of rfl (bin_neq _ _ _ _) (Som_of rfl ?_)
    rw [decide_eq_true (show (11 : Int) ≠ 0 by omega)]
    refine Som_of rfl (Som_of rfl (Som_of rfl (Som_of rfl (GE_n rfl (Som_of rfl (Som_of rfl ?_))))))
    rw [WIf_true, Ret_1 rfl]
    obtain ⟨M'', b1, b2⟩ := back hw10 (r9'.trans k05.ok r10)
    exact (hO3 hoff hroom hof hof2).go b1 b2
  rw [ean2] at hof2 hw10
  have r10' := r9'.trans k05.ok r10
  obtain ⟨M10l, hl10, rl10⟩ := back hw10 r10'
  refine Sq_of rfl (bin_neq _ _ _ _) (Som_of rfl ?_)
  rw [decide_eq_false (show ¬ (0 : Int) ≠ 0 by omega)]
  refine Som_of rfl (Sq_of rfl rfl (Sq_of rfl (vField0 _ _ _) (Sq_of rfl (ld hl10.lg.blk rfl) (GE_t rfl ?_))))
  have hok2 : DkOk (D.an2 L fr rs) := hD4.count
  have hwz : (D.an2 L fr rs).wait.length = 0 := by
    show ((D.an1 L fr rs).sync.count).wait.length = 0
    rw [Dk.count_wait]; rfl
  have hD6 : DkOk ((D.an2 L fr rs).cutF L.file 0) := hok2.cutF hf64 (Nat.zero_le _) (Dk.file_ok hok2 _) (by omega)
  have ean3 : ((D.an2 L fr rs).cutF L.file 0).count = D.an3 L fr rs := rfl
  refine wsync_c ht r10.k.ok hw10 hD6 (fun σ11 M11 hof3 hw11 r11 => ?_) (fun σ11 M11 hof3 hw11 r11 => ?_)
  · rw [ean3] at hof3 hw11
    refine Sq_of rfl (bin_neq _ _ _ _) (Som_of rfl ?_)
    refine WIf_t (by omega) ?_
    rw [Ret_1 rfl]
    obtain ⟨M'', b1, b2⟩ := back hw11 (r10'.trans k05.ok r11)
    exact (hO4 hoff hroom hof hof2 hof3).go b1 b2
  rw [ean3] at hof3 hw11
  refine Sq_of rfl (bin_neq _ _ _ _) (Som_of rfl ?_)
  refine WIf_f (by omega) ?_
  have r11' := r10'.trans k05.ok r11
  obtain ⟨pf', ps', fv', sv', wv', wc', mw', hwx, ex⟩ := hw11
  subst ex
  obtain ⟨bk1, bk2⟩ := WlAt.back h ho k05 (by omega) (Nat.le_refl _) g1 hL5 hwx r11'
  have hmr7 : wM t σ.next.nat d pf ps mw mr7 ∨ σ5.next.nat ≤ mr7 := r11'.s mr7 (.inl (.inr rfl))
  have n05 := k05.next
  have hllt : l.nat < σ.next.nat := h.lg.gl _ h.lg.g1
  refine WlAt.over (M := wM l mr d pf ps mw) (σ := σ) r11.k.ok hwx bk1 (fun e => ?_) ?_ bk2 (.inl (.inl rfl)) (hS hoff hroom hof hof2 hof3)
  · rw [e] at hmr7
    rcases hmr7 with hh | hh
    · rcases hh with hh | hh
      · rcases hh with hh | hh <;> omega
      · exact h.ap _ (.inl rfl) hh
    · omega
  · rcases hmr7 with hh | hh
    · rcases hh with hh | hh
      · right; rcases hh with hh | hh <;> omega
      · exact .inl (.inr hh)
    · right; omega
end
end Go.Am
namespace Go.Am
section
variable {tab : Nat → Option PFn} {σ : S} {Q : AVal → S → Prop} {G M : Nat → Prop} {l d : Pos} {L : Lg} {D : Dk} {rv : AVal} {mr : Nat}
inductive PutOut (L : Lg) (D : Dk) (p : List Nat) : Int → Lg → Dk → Prop
  | off : D.count.off = true → PutOut L D p 11 L D.count
  | big : D.count.off = false → L.size > 1048576 → PutOut L D p 1 L D.count
  | full : D.count.off = false → L.size ≤ 1048576 → ¬ D.count.room L.file L.size p.length → PutOut L D p 10 L D.count
  | ok : D.count.off = false → L.size ≤ 1048576 → D.count.room L.file L.size p.length → PutOut L D p 0 (L.grown p.length) (D.count.write L.file L.size p)
inductive AnewOut (L : Lg) (D : Dk) (fr : Nat) (rs : List (List Nat)) : Int → Lg → Dk → Prop
  | off1 : D.count.off = true → AnewOut L D fr rs 11 L D.count
  | full : D.count.off = false → ¬ D.count.room (17 - L.file) 0 (anewB (L.age + 1) fr rs).length → AnewOut L D fr rs 10 L D.count
  | off2 : D.count.off = false → D.count.room (17 - L.file) 0 (anewB (L.age + 1) fr rs).length → (D.an1 L fr rs).off = true → AnewOut L D fr rs 11 L (D.an1 L fr rs)
  | off3 : D.count.off = false → D.count.room (17 - L.file) 0 (anewB (L.age + 1) fr rs).length → (D.an1 L fr rs).off = false → (D.an2 L fr rs).off = true → AnewOut L D fr rs 11 L (D.an2 L fr rs)
  | off4 : D.count.off = false → D.count.room (17 - L.file) 0 (anewB (L.age + 1) fr rs).length → (D.an1 L fr rs).off = false → (D.an2 L fr rs).off = false → (D.an3 L fr rs).off = true → AnewOut L D fr rs 11 L (D.an3 L fr rs)
  | ok : D.count.off = false → D.count.room (17 - L.file) 0 (anewB (L.age + 1) fr rs).length → (D.an1 L fr rs).off = false → (D.an2 L fr rs).off = false → (D.an3 L fr rs).off = false → AnewOut L D fr rs 0 (L.anew fr rs) (D.an3 L fr rs).sync
theorem put_o (ht : Tab tab) (ho : Ok σ) (h : WL σ G l d L D rv mr M) (hok : LgOk L) (hdk : DkOk D) (hwn : D.wait.length < 1000000000) (hfile : L.file < 64) {v : AVal} {p : List Nat} {m : Nat} (hv : BySl σ v p m) (hpb : Bytes p) (hm : p ≠ [] → ¬ G m) (hpl : p.length ≤ 1000000000000)
    (hQ : ∀ e L' D', PutOut L D p e L' D' → ThenK mr σ G M l d L' D' (Q (.int .i64 e))) : WF tab 51 [.ptr l 0, v] σ Q :=
  put_lc ht ho h hok hdk hwn hfile hv hpb hm hpl (fun hr => by
    have h1 := Dk.file_ok hdk.count L.file
    have h2 := D.count.file_held L.file
    have h3 := hdk.count.q
    have h4 := hok.size
    unfold Dk.room at hr
    omega) (fun a => hQ _ _ _ (.off a)) (fun a b => hQ _ _ _ (.big a b)) (fun a b c => hQ _ _ _ (.full a b c)) (fun a b c => hQ _ _ _ (.ok a b c))
theorem anew_o (ht : Tab tab) (ho : Ok σ) (h : WL σ G l d L D rv mr M) (hok : LgOk L) (hdk : DkOk D) (hwn : D.wait.length + 10 < 1000000000) (hfile : L.file = 8 ∨ L.file = 9) {v : AVal} {rs : List (List Nat)} {m fr : Nat} (hv : SlAt σ v 1 rs.length (strs rs) m) (hm : rs ≠ [] → m = mr)
    (hrs : ∀ r ∈ rs, Bytes r ∧ r.length ≤ 20000) (hfr : fr ≤ 2199023255552) (hrl : rs.length ≤ 10000000) (hage : L.age < 1152921504606846976)
    (hQ : ∀ e L' D', AnewOut L D fr rs e L' D' → Then σ G M l d L' D' (Q (.int .i64 e))) : WF tab 45 [.ptr l 0, .int .i64 (fr : Int), v] σ Q :=
  anew_c ht ho h hok hdk hwn hfile hv hm hrs hfr hrl hage (fun a => hQ _ _ _ (.off1 a)) (fun a b => hQ _ _ _ (.full a b)) (fun a b c => hQ _ _ _ (.off2 a b c)) (fun a b c e => hQ _ _ _ (.off3 a b c e)) (fun a b c e f => hQ _ _ _ (.off4 a b c e f)) (fun a b c e f => hQ _ _ _ (.ok a b c e f))
noncomputable def leftB (L : Lg) (kind i : Nat) : List Nat := begunF L ++ putF [] (pay kind L.hd.age i 0 [])
inductive LeftOut (L : Lg) (D : Dk) (kind i fr : Nat) (rs : List (List Nat)) : Int → Lg → Dk → Prop
  | anew {e : Int} {L' : Lg} {D' : Dk} : L.size + (leftB L kind i).length > 2 * bytesF L.hd.age fr rs + 4096 → AnewOut L.hd D fr rs e L' D' → LeftOut L D kind i fr rs e L' D'
  | fail {e : Int} {L' : Lg} {D' : Dk} : ¬ L.size + (leftB L kind i).length > 2 * bytesF L.hd.age fr rs + 4096 → PutOut L.hd D (leftB L kind i) e L' D' → e ≠ 0 → LeftOut L D kind i fr rs e L' D'
  | ok {L' : Lg} {D' : Dk} : ¬ L.size + (leftB L kind i).length > 2 * bytesF L.hd.age fr rs + 4096 → PutOut L.hd D (leftB L kind i) 0 L' D' → LeftOut L D kind i fr rs 0 (L'.keep fr rs) D'
theorem Lg.hd_same (L : Lg) : L.hd.file = L.file ∧ L.hd.first = L.first ∧ L.hd.recs = L.recs ∧ L.hd.size = L.size ∧ L.hd.live = L.live ∧ L.hd.age ≤ max L.age 1 := by
  unfold Lg.hd
  split
  · exact ⟨rfl, rfl, rfl, rfl, rfl, Nat.le_max_left _ _⟩
  · exact ⟨rfl, rfl, rfl, rfl, rfl, Nat.le_refl _⟩
theorem LgOk.hd (h : LgOk L) : LgOk L.hd := by
  obtain ⟨h1, h2, h3, h4, h5, h6⟩ := L.hd_same
  have := h.age
  exact ⟨by omega, by rw [h2]; exact h.first, by rw [h3]; exact h.recs, by rw [h3]; exact h.many, by rw [h4]; exact h.size, by rw [h5]; exact h.live⟩
theorem begunF_len (L : Lg) (h : LgOk L) : (begunF L).length ≤ 48 := by
  have h1 := h.age; have h2 := h.first
  unfold begunF
  split
  · exact Nat.zero_le _
  · have := putF_nil_len (kind := 0) (age := max L.age 1) (i := L.first) (n := 0) (r := []) (by omega) (by omega) (by omega) (by omega)
    rw [List.length_nil] at this
    exact this
theorem left_o (ht : Tab tab) (ho : Ok σ) (h : WL σ G l d L D rv mr M) (hok : LgOk L) (hdk : DkOk D) (hwn : D.wait.length + 10 < 1000000000) (hfile : L.file = 8 ∨ L.file = 9) {v : AVal} {rs : List (List Nat)} {m kind i fr : Nat} (hkind : kind < 100) (hi : i ≤ 2199023255552) (hv : SlAt σ v 1 rs.length (strs rs) m) (hm : rs ≠ [] → m = mr)
    (hrs : ∀ r ∈ rs, Bytes r ∧ r.length ≤ 20000) (hfr : fr ≤ 2199023255552) (hrl : rs.length ≤ 10000000) (hage : L.age < 1152921504606846975)
    (hQ : ∀ e L' D', LeftOut L D kind i fr rs e L' D' → Then σ G M l d L' D' (Q (.int .i64 e))) : WF tab 47 [.ptr l 0, .int .i64 (kind : Int), .int .i64 (i : Int), .int .i64 (fr : Int), v] σ Q := by
  refine f47_wf ht.t47 ?_
  unfold f47
  have hmM : M mr := h.hr
  have hlt := h.lt
  refine begun_c ht ho h.lg hok fun bv mb σ1 h1 g1 l1 k1 => ?_
  obtain ⟨q1, q2, q3, q4, q5, q6⟩ := L.hd_same
  have hok1 := hok.hd
  have hlr : l.nat ≠ mr := fun e => h.lg.n1 e.symm
  have hv1 := hv.keep (M := fun x => x = l.nat) (fun hz e => hlr (by rw [← e, hm (fun he => by subst he; simp at hz)])) k1
  have hb1 := begunF_len L hok
  have hbb1 := begunF_bytes L
  have hlb : leftB L kind i = begunF L ++ putF [] (pay kind L.hd.age i 0 []) := rfl
  have hage1 : L.hd.age ≤ 1152921504606846975 := by omega
  generalize hLh : L.hd = Lh at *
  refine Som_of rfl (Som_of (vField0 _ _ _) (Som_of (ld h1.blk rfl) ?_))
  refine framed_c ht (kind := (kind : Int)) (age := (Lh.age : Int)) (i := (i : Int)) (n := 0) k1.ok (BySl.nil _) ⟨by omega, by omega⟩ ⟨by omega, by omega⟩ ⟨by omega, by omega⟩ ⟨by omega, by omega⟩ Bytes.nil (by rw [List.length_nil]; omega) fun w σ2 m2 g2 k2 l2 _ => ?_
  have e1 : ((kind : Int)).toNat = kind := by omega
  have e2 : ((Lh.age : Int)).toNat = Lh.age := by omega
  have e3 : ((i : Int)).toNat = i := by omega
  rw [e1, e2, e3] at g2
  have g2 : ByGr σ2 w (putF [] (pay kind Lh.age i 0 [])) m2 := g2
  have hpl := putF_nil_len (kind := kind) (age := Lh.age) (i := i) (n := 0) (r := []) (by omega) (by omega) (by omega) (by omega)
  rw [List.length_nil] at hpl
  have n1 := k1.next; have n2 := k2.next
  obtain ⟨w3, σ3, m3, a3, g3, k3, l3⟩ := append_sl k2.ok (g1.keep (M := fun _ => False) (fun h => h) k2) g2.sl (by omega)
  refine Eff_of a3 ?_
  rw [← hlb] at g3
  have hlen : (leftB L kind i).length ≤ 96 := by rw [hlb, List.length_append]; omega
  have hlbb : Bytes (leftB L kind i) := by rw [hlb]; exact hbb1.app (putF_nil_bytes Bytes.nil)
  have hlm : ∀ x, lM l mr x → ¬ x = mb := fun x hx e => by
    have : x < σ.next.nat := by
      rcases hx with hx | hx
      · rw [hx]; exact h.lg.gl _ h.lg.g1
      · rw [hx]; exact h.lg.gl _ h.lg.g2
    omega
  have k03 : Keep (fun x => x = l.nat) σ σ3 := (k1.trans (Keep0.to k2)).then ho k3 fun x hx e => by omega
  have h3 : LgAt σ3 G l d Lh rv mr := (h1.keep0 k2).keep k3 hlm
  have hv3 := hv.keep (M := fun x => x = l.nat) (fun hz e => hlr (by rw [← e, hm (fun he => by subst he; simp at hz)])) k03
  obtain ⟨M3, hw3, k3', s3⟩ := h.setL ho h3 (k03.mono fun x e => .inl e) (Gr.refl _ _) (.inl rfl)
  have r3 : Rel3 σ G M σ3 G M3 := ⟨k3', Gr.refl _ _, s3⟩
  have k4 : Keep0 σ3 (σ3.bumpT 14) := Keep.bump k3.ok 14
  have hw4 := hw3.keep0 k4
  have hv4 := hv3.keep (M := fun _ => False) (fun _ h => h) k4
  have g4 := g3.keep (M := fun _ => False) (fun h => h) k4
  have hsz := hok1.size
  refine Som_of rfl (Som_of (vField0 _ _ _) (Som_of (ld hw4.lg.blk rfl) (Som_of g4.sl.len (Som_of (bin_add _ _ _ _) ?_))))
  have es : IntKind.i64.wrap ((Lh.size : Int) + ((leftB L kind i).length : Int)) = ((Lh.size + (leftB L kind i).length : Nat) : Int) := by
    rw [wrap_i64_in (n := (Lh.size : Int) + ((leftB L kind i).length : Int)) (by omega) (by omega)]; omega
  rw [es]
  refine bytes_c ht k4.ok hw4.lg hok1 hv4 hrs hfr (by omega) fun σ5 k5 => ?_
  have hw5 := hw4.keep0 k5
  have hv5 := hv4.keep (M := fun _ => False) (fun _ h => h) k5
  have g5 := g4.keep (M := fun _ => False) (fun h => h) k5
  have k35 : Keep0 σ3 σ5 := k4.trans k5
  have r5 : Rel3 σ G M σ5 G M3 := r3.trans ho (Rel3.keep0 k35 G M3)
  have hby := bytesF_le (age := Lh.age) (i := fr) (rs := rs) (by omega) (by omega) hrs
  refine Sure_of (SameO_of (ld hw5.lg.blk rfl) (same_int _ _)) ?_
  refine Som_of (bin_mul _ _ _ _) (Som_of (bin_add _ _ _ _) (Som_of (bin_gtr _ _ _ _) ?_))
  rw [wrap_i64_in (n := (2 : Int) * ((bytesF Lh.age fr rs : Nat) : Int)) (by omega) (by omega), wrap_i64_in (n := (2 : Int) * ((bytesF Lh.age fr rs : Nat) : Int) + 4096) (by omega) (by omega)]
  have hthen : ∀ {e : Int} {L' : Lg} {D' : Dk}, LeftOut L D kind i fr rs e L' D' → ∀ {σ' : S} {G' M' : Nat → Prop} {rv' : AVal} {mr' : Nat}, WL σ' G' l d L' D' rv' mr' M' → Rel3 σ5 G M3 σ' G' M' → Q (.int .i64 e) σ' := by
    intro e L' D' ho' σ' G' M' rv' mr' hw' r'
    exact Then.go (hQ _ _ _ ho') hw' (r5.trans ho r')
  refine WIf_dec (fun hgt => ?_) (fun hle => ?_)
  · refine anew_o ht k5.ok hw5 hok1 hdk hwn (by rw [q1]; exact hfile) hv5 hm hrs hfr hrl (by omega) fun e L' D' hout => ?_
    intro σ' G' M' rv' mr' hw' k' g' s'
    rw [Ret_1 rfl]
    exact hthen (.anew (by rw [hLh]; omega) (by rw [hLh]; exact hout)) hw' ⟨k', g', s'⟩
  · have hm3 : leftB L kind i ≠ [] → ¬ G m3 := fun _ hg => by
      have := h.gl m3 hg
      omega
    refine put_o ht k5.ok hw5 hok1 hdk (by omega) (by rw [q1]; omega) g5.sl hlbb hm3 (by omega) fun e L' D' hout => ?_
    intro σ' G' M' rv' mr' hw' k' g' s'
    have r' : Rel3 σ5 G M3 σ' G' M' := ⟨k'.mono fun x hx => hx.1, g', s'⟩
    refine Som_of (bin_neq _ _ _ _) ?_
    refine WIf_dec (fun hne => ?_) (fun hz => ?_)
    · rw [Ret_1 rfl]
      exact hthen (.fail (by rw [hLh]; omega) (by rw [hLh]; exact hout) hne) hw' r'
    · have he : e = 0 := by omega
      subst he
      have hv6 := hv5.keep (fun hz' e => e.2 (hm (fun he => by subst he; simp at hz'))) k'
      have hokL' : LgOk L' := by
        cases hout with
        | ok a b c =>
          have := room_len hdk.count c b
          have hLs := hok1.size
          exact ⟨hok1.age, hok1.first, hok1.recs, hok1.many, by show Lh.size + _ ≤ _; omega, hok1.live⟩
      have hml : ∀ {G2 M2 : Nat → Prop} {σ2 : S} {rv2 : AVal} {mr2 : Nat} {L2 : Lg} {D2 : Dk}, WL σ2 G2 l d L2 D2 rv2 mr2 M2 → rs ≠ [] → m ≠ l.nat := fun _ hne e => hlr (by rw [← e, hm hne])
      refine keep_c ht k'.ok hw'.lg hokL' hv6 (hml hw') hrs hfr (by omega) fun _ σ7 G7 rv7 mr7 h7 k7 g7 l7 => ?_
      rw [Ret_1 rfl]
      obtain ⟨M7, hw7, k7', s7⟩ := hw'.setL k'.ok h7 (k7.mono fun x e => .inl e) g7 l7
      exact hthen (.ok (by rw [hLh]; omega) (by rw [hLh]; exact hout)) hw7 (r'.trans k5.ok ⟨k7', g7, s7⟩)
end
end Go.Am
namespace Go.Am
section
variable {tab : Nat → Option PFn} {σ : S} {Q : AVal → S → Prop} {G M : Nat → Prop} {l d : Pos} {L : Lg} {D : Dk} {rv : AVal} {mr : Nat}
theorem span_c (ht : Tab tab) (ho : Ok σ) (h : LgAt σ G l d L rv mr) (hok : LgOk L) {i : Int} {A B : S → Prop} (hA : (i < L.first ∨ (L.next : Int) < i) → ∀ σ', Keep0 σ σ' → A σ') (hB : L.first ≤ i → i ≤ (L.next : Int) → ∀ σ', Keep0 σ σ' → B σ') :
    Som (vNilck (.ptr l 0)) fun t7 => Som (vFieldAddr 3 t7) fun t8 => Som (vLoad1 t8 σ) fun t9 => Som (binA .lss .num (.int .i64 i) t9) fun t10 => Som (gq1 (isB t10 false) (some (.int .i64 i))) fun t12 => Som (gq1 (isB t10 false) (some (.ptr l 0))) fun t13 =>
      gE1 (isB t10 false) (fun K => WF tab 15 [t13] σ K) σ fun t14 σ1 => Som (gq1 (isB t10 false) (binA .add .num t14 (.int .i64 1))) fun t15 => Som (gq1 (isB t10 false) (binA .gtr .num t12 t15)) fun t16 => Som (vPick t10 (.bool true) t16) fun t17 => WIf t17 (A σ1) (B σ1) := by
  refine Som_of rfl (Som_of (vField0 _ _ _) (Som_of (ld h.blk rfl) (Som_of (bin_lss _ _ _ _) ?_)))
  have hf := hok.first; have hm := hok.many
  by_cases hlo : i < L.first
  · rw [decide_eq_true hlo]
    refine Som_of rfl (Som_of rfl (GE_n rfl (Som_of rfl (Som_of rfl (Som_of rfl ?_)))))
    rw [WIf_true]
    exact hA (.inl hlo) _ (Keep0.nil ho)
  · rw [decide_eq_false hlo]
    refine Som_of rfl (Som_of rfl (GE_t rfl ?_))
    refine last_c ht ho h hok fun σ1 k1 => ?_
    have hnx : (L.next : Int) = (L.first : Int) + (L.recs.length : Int) := by unfold Lg.next; omega
    refine Sq_of rfl (bin_add _ _ _ _) (Sq_of rfl (bin_gtr _ _ _ _) (Som_of rfl ?_))
    rw [wrap_i64_in (n := (L.next : Int) - 1 + 1) (by omega) (by omega)]
    refine WIf_dec (fun hgt => ?_) (fun hle => ?_)
    · exact hA (.inr (by omega)) _ k1
    · exact hB (by omega) (by omega) _ k1
theorem Then.here {R : S → Prop} {σ1 : S} (h : Then σ G M l d L D R) (hw : WL σ G l d L D rv mr M) (k : Keep0 σ σ1) : R σ1 := Then.go h (hw.keep0 k) (Rel3.keep0 k G M)
theorem LgAt.recsTake {n : Nat} (h : LgAt σ G l d L rv mr) (hn : n ≤ L.recs.length) :
    ∃ w, vSlSl 1 rv none (some (.int .i64 (n : Int))) none = some w ∧ SlAt σ w 1 (L.recs.take n).length (strs (L.recs.take n)) mr := by
  obtain ⟨w, w1, w2⟩ := SlAt.cutH h.rg.sl (hi := n) hn
  refine ⟨w, w1, ?_⟩
  have hlen : (L.recs.take n).length = n := by rw [List.length_take]; omega
  rw [hlen]
  show SlAt _ _ _ _ ((L.recs.take n).map .str) _
  rw [List.map_take]
  rw [Nat.mul_one] at w2
  exact w2
theorem LgAt.recsDrop {n : Nat} (h : LgAt σ G l d L rv mr) (hn : n ≤ L.recs.length) :
    ∃ w, vSlSl 1 rv (some (.int .i64 (n : Int))) none none = some w ∧ SlAt σ w 1 (L.recs.drop n).length (strs (L.recs.drop n)) mr := by
  obtain ⟨w, w1, w2⟩ := SlAt.cutL h.rg.sl (lo := n) hn
  refine ⟨w, w1, ?_⟩
  have hlen : (L.recs.drop n).length = L.recs.length - n := by rw [List.length_drop]
  rw [hlen]
  show SlAt _ _ _ _ ((L.recs.drop n).map .str) _
  rw [List.map_drop]
  rw [Nat.mul_one, Nat.mul_one, List.take_of_length_le (by rw [List.length_drop, strs_len]; omega)] at w2
  exact w2
inductive CutOut (L : Lg) (D : Dk) (i : Int) : Int → Lg → Dk → Prop
  | arg : (i < L.first ∨ (L.next : Int) < i) → CutOut L D i 1 L D
  | off : L.first ≤ i → i ≤ L.next → D.off = true → CutOut L D i 11 L D
  | same : i = L.next → D.off = false → CutOut L D i 0 L D
  | left {j : Nat} {e : Int} {L' : Lg} {D' : Dk} : i = j → L.first ≤ j → j < L.next → D.off = false → LeftOut L D 2 j L.first (L.recs.take (j - L.first)) e L' D' → CutOut L D i e L' D'
theorem cut_o (ht : Tab tab) (ho : Ok σ) (h : WL σ G l d L D rv mr M) (hok : LgOk L) (hdk : DkOk D) (hwn : D.wait.length + 10 < 1000000000) (hfile : L.file = 8 ∨ L.file = 9) (hrl : L.recs.length ≤ 10000000) (hfi : L.first ≤ 1099511627777) (hage : L.age < 1152921504606846975) {i : Int}
    (hQ : ∀ e L' D', CutOut L D i e L' D' → Then σ G M l d L' D' (Q (.int .i64 e))) : WF tab 17 [.ptr l 0, .int .i64 i] σ Q := by
  refine f17_wf ht.t17 ?_
  unfold f17
  refine span_c ht ho h.lg hok (fun hbad σ1 k1 => ?_) (fun hlo hhi σ1 k1 => ?_)
  · rw [Ret_1 rfl]
    exact Then.here (hQ _ _ _ (.arg hbad)) h k1
  have h1 := h.keep0 k1
  refine Som_of rfl (Som_of (vField0 _ _ _) (Som_of (ld h1.lg.blk rfl) ?_))
  have hnx : (L.next : Int) = (L.first : Int) + (L.recs.length : Int) := by unfold Lg.next; omega
  have hf := hok.first; have hm := hok.many
  have hd := h1
  obtain ⟨pf, ps, fv, sv, wv, wc, mw, hd, _⟩ := hd
  refine off_c ht hd.dk ?_
  cases hoff : D.off with
  | true =>
    rw [WIf_true, Ret_1 rfl]
    exact Then.here (hQ _ _ _ (.off hlo hhi hoff)) h k1
  | false =>
  rw [WIf_false]
  refine last_c ht k1.ok h1.lg hok fun σ2 k2 => ?_
  refine Som_of (bin_add _ _ _ _) (Som_of (bin_eql _ _ _ _) ?_)
  rw [wrap_i64_in (n := (L.next : Int) - 1 + 1) (by omega) (by omega)]
  have k12 := k1.trans k2
  refine WIf_dec (fun heq => ?_) (fun hne => ?_)
  · rw [Ret_1 rfl]
    exact Then.here (hQ _ _ _ (.same (by omega) hoff)) h k12
  obtain ⟨j, hj⟩ := Int.eq_ofNat_of_zero_le (show 0 ≤ i by omega)
  subst hj
  have k3 := k12.trans (Keep.bump k12.ok 19)
  have h3 := h.keep0 k3
  refine Som_of rfl (Som_of (vField0 _ _ _) (Som_of (ld h3.lg.blk rfl) (Som_of rfl (Som_of (vField0 _ _ _) (Som_of (ld h3.lg.blk rfl) (Som_of rfl (Som_of (vField0 _ _ _) (Som_of (ld h3.lg.blk rfl) (Som_of (bin_sub _ _ _ _) ?_)))))))))
  have e1 : IntKind.i64.wrap ((j : Int) - (L.first : Int)) = ((j - L.first : Nat) : Int) := by
    rw [wrap_i64_in (n := (j : Int) - (L.first : Int)) (by omega) (by omega)]; omega
  rw [e1]
  obtain ⟨w, w1, w2⟩ := h3.lg.recsTake (n := j - L.first) (by omega)
  refine Som_of w1 ?_
  refine left_o ht k3.ok h3 hok hdk hwn hfile (kind := 2) (by omega) (by omega) w2 (fun _ => rfl) (fun r hr => hok.recs r (List.mem_of_mem_take hr)) (by omega) (by rw [List.length_take]; omega) hage fun e L' D' hout => ?_
  refine Then.of k3 ?_
  intro σ' G' M' rv' mr' hw' a b c
  rw [Ret_1 rfl]
  exact hQ _ _ _ (.left rfl (by omega) (by omega) hoff hout) σ' G' M' rv' mr' hw' a b c
inductive DropOut (L : Lg) (D : Dk) (i : Int) : Int → Lg → Dk → Prop
  | arg : (i < L.first ∨ (L.next : Int) < i) → DropOut L D i 1 L D
  | off : L.first ≤ i → i ≤ L.next → D.off = true → DropOut L D i 11 L D
  | same : i = L.first → D.off = false → DropOut L D i 0 L D
  | left {j : Nat} {e : Int} {L' : Lg} {D' : Dk} : i = j → L.first < j → j ≤ L.next → D.off = false → LeftOut L D 3 j j (L.recs.drop (j - L.first)) e L' D' → DropOut L D i e L' D'
theorem drop_o (ht : Tab tab) (ho : Ok σ) (h : WL σ G l d L D rv mr M) (hok : LgOk L) (hdk : DkOk D) (hwn : D.wait.length + 10 < 1000000000) (hfile : L.file = 8 ∨ L.file = 9) (hrl : L.recs.length ≤ 10000000) (hfi : L.first ≤ 1099511627777) (hage : L.age < 1152921504606846975) {i : Int}
    (hQ : ∀ e L' D', DropOut L D i e L' D' → Then σ G M l d L' D' (Q (.int .i64 e))) : WF tab 19 [.ptr l 0, .int .i64 i] σ Q := by
  refine f19_wf ht.t19 ?_
  unfold f19
  refine span_c ht ho h.lg hok (fun hbad σ1 k1 => ?_) (fun hlo hhi σ1 k1 => ?_)
  · rw [Ret_1 rfl]
    exact Then.here (hQ _ _ _ (.arg hbad)) h k1
  have h1 := h.keep0 k1
  refine Som_of rfl (Som_of (vField0 _ _ _) (Som_of (ld h1.lg.blk rfl) ?_))
  have hnx : (L.next : Int) = (L.first : Int) + (L.recs.length : Int) := by unfold Lg.next; omega
  have hf := hok.first; have hm := hok.many
  have hd := h1
  obtain ⟨pf, ps, fv, sv, wv, wc, mw, hd, _⟩ := hd
  refine off_c ht hd.dk ?_
  cases hoff : D.off with
  | true =>
    rw [WIf_true, Ret_1 rfl]
    exact Then.here (hQ _ _ _ (.off hlo hhi hoff)) h k1
  | false =>
  rw [WIf_false]
  refine Som_of rfl (Som_of (vField0 _ _ _) (Som_of (ld h1.lg.blk rfl) (Som_of (bin_eql _ _ _ _) ?_)))
  refine WIf_dec (fun heq => ?_) (fun hne => ?_)
  · rw [Ret_1 rfl]
    exact Then.here (hQ _ _ _ (.same (by omega) hoff)) h k1
  obtain ⟨j, hj⟩ := Int.eq_ofNat_of_zero_le (show 0 ≤ i by omega)
  subst hj
  have k3 := k1.trans (Keep.bump k1.ok 16)
  have h3 := h.keep0 k3
  refine Som_of rfl (Som_of (vField0 _ _ _) (Som_of (ld h3.lg.blk rfl) (Som_of rfl (Som_of (vField0 _ _ _) (Som_of (ld h3.lg.blk rfl) (Som_of (bin_sub _ _ _ _) ?_))))))
  have e1 : IntKind.i64.wrap ((j : Int) - (L.first : Int)) = ((j - L.first : Nat) : Int) := by
    rw [wrap_i64_in (n := (j : Int) - (L.first : Int)) (by omega) (by omega)]; omega
  rw [e1]
  obtain ⟨w, w1, w2⟩ := h3.lg.recsDrop (n := j - L.first) (by omega)
  refine Som_of w1 ?_
  refine left_o ht k3.ok h3 hok hdk hwn hfile (kind := 3) (by omega) (by omega) w2 (fun _ => rfl) (fun r hr => hok.recs r (List.mem_of_mem_drop hr)) (by omega) (by rw [List.length_drop]; omega) hage fun e L' D' hout => ?_
  refine Then.of k3 ?_
  intro σ' G' M' rv' mr' hw' a b c
  rw [Ret_1 rfl]
  exact hQ _ _ _ (.left rfl (by omega) (by omega) hoff hout) σ' G' M' rv' mr' hw' a b c
def Lg.get (L : Lg) (i : Int) : Option (List Nat) := if i < L.first then none else L.recs[(i - L.first).toNat]?
theorem get_o (ht : Tab tab) (ho : Ok σ) (h : LgAt σ G l d L rv mr) (hok : LgOk L) {i : Int} (hi : i ≤ 9223372036854775807)
    (hN : L.get i = none → ∀ σ', Keep0 σ σ' → Q (.tup [.str [], .bool false]) σ') (hS : ∀ r, L.get i = some r → ∀ σ', Keep0 σ σ' → Q (.tup [.str r, .bool true]) σ') : WF tab 16 [.ptr l 0, .int .i64 i] σ Q := by
  refine f16_wf ht.t16 ?_
  unfold f16
  refine Som_of rfl (Som_of (vField0 _ _ _) (Som_of (ld h.blk rfl) (Som_of (bin_lss _ _ _ _) ?_)))
  have hf := hok.first; have hm := hok.many
  by_cases hlo : i < L.first
  · rw [decide_eq_true hlo]
    refine Som_of rfl (Som_of rfl (GE_n rfl (Som_of rfl (Som_of rfl ?_))))
    rw [WIf_true, Ret_2 rfl rfl]
    exact hN (by unfold Lg.get; rw [if_pos hlo]) _ (Keep0.nil ho)
  · rw [decide_eq_false hlo]
    refine Som_of rfl (Som_of rfl (GE_t rfl ?_))
    refine last_c ht ho h hok fun σ1 k1 => ?_
    have hnx : (L.next : Int) = (L.first : Int) + (L.recs.length : Int) := by unfold Lg.next; omega
    refine Sq_of rfl (bin_gtr _ _ _ _) (Som_of rfl ?_)
    refine WIf_dec (fun hgt => ?_) (fun hle => ?_)
    · rw [Ret_2 rfl rfl]
      exact hN (by unfold Lg.get; rw [if_neg hlo, List.getElem?_eq_none (by omega)]) _ k1
    · have k2 := k1.trans (Keep.bump k1.ok 14)
      have h2 := h.keep0 k2
      refine Som_of rfl (Som_of (vField0 _ _ _) (Som_of (ld h2.blk rfl) (Som_of rfl (Som_of (vField0 _ _ _) (Som_of (ld h2.blk rfl) (Som_of (bin_sub _ _ _ _) ?_))))))
      have e1 : IntKind.i64.wrap (i - (L.first : Int)) = ((i - L.first).toNat : Int) := by
        rw [wrap_i64_in (n := i - (L.first : Int)) (by omega) (by omega)]; omega
      rw [e1]
      have hlt : (i - L.first).toNat < L.recs.length := by omega
      obtain ⟨p, p1, p2⟩ := SlAt.get1 h2.rg.sl hlt
      have hr : L.recs[(i - L.first).toNat]? = some L.recs[(i - L.first).toNat] := List.getElem?_eq_getElem hlt
      refine Som_of p1 (Som_of (v := .str L.recs[(i - L.first).toNat]) (by rw [p2, List.getElem?_map, hr]; rfl) ?_)
      rw [Ret_2 rfl rfl]
      exact hS _ (by unfold Lg.get; rw [if_neg hlo, hr]) _ k2
theorem lsync_c (ht : Tab tab) (ho : Ok σ) (h : WL σ G l d L D rv mr M) (hdk : DkOk D)
    (hO : D.count.off = true → Then σ G M l d L D.count (Q (.int .i64 11)))
    (hS : D.count.off = false → Then σ G M l d L D.count.sync (Q (.int .i64 0))) : WF tab 20 [.ptr l 0] σ Q := by
  refine f20_wf ht.t20 ?_
  unfold f20
  refine Som_of rfl (Som_of (vField0 _ _ _) (Som_of (ld h.lg.blk rfl) ?_))
  refine wsync_c ht ho h hdk (fun σ' M' a hw r => ?_) (fun σ' M' a hw r => ?_)
  · rw [Ret_1 rfl]; exact Then.go (hO a) hw r
  · rw [Ret_1 rfl]; exact Then.go (hS a) hw r
end
end Go.Am
namespace Go.Am
section
variable {tab : Nat → Option PFn} {σ : S} {Q : AVal → S → Prop} {G M : Nat → Prop} {l d : Pos} {L : Lg} {D : Dk} {rv : AVal} {mr : Nat}
theorem app_loop0 (n : Nat) : ∀ (E : En) (σ : S) (fr : Int) (i : Nat) (v : AVal) (rs : List (List Nat)) (m : Nat), SlAt σ v 1 rs.length (strs rs) m → (∀ r ∈ rs, Bytes r ∧ r.length ≤ 20000) → rs.length ≤ 10000000 → i + n = rs.length → (∀ r ∈ rs.take i, r.length ≤ 16284) →
    E 1 = .int .i64 fr → E 21 = v → E 22 = .int .i64 (rs.length : Int) → E 23 = .int .i64 (i : Int) → E 0 = .ptr l 0 → E 2 = v →
    ((∃ r ∈ rs, 16284 < r.length) → Q (.int .i64 1) σ) →
    ((∀ r ∈ rs, r.length ≤ 16284) → ∀ E', E' 1 = .int .i64 fr → E' 0 = .ptr l 0 → E' 2 = v → wC (WF tab) f18.c1 E' σ (retK f18.res Q)) →
    f18.L0 (WF tab) Q E σ := by
  induction n with
  | zero =>
    intro E σ fr i v rs m hv hrs hrl hi hsm h1 h21 h22 h23 h0 h2 hB hK
    refine f18.p0_of ?_
    unfold f18.p0
    rw [h23, h22]
    refine Som_of (bin_lss _ _ _ _) ?_
    refine WIf_f (by omega) ?_
    refine hK (fun r hr => hsm r ?_) _ (by simp [h1]) (by simp [h0]) (by simp [h2])
    rw [List.take_of_length_le (by omega)]; exact hr
  | succ n ih =>
    intro E σ fr i v rs m hv hrs hrl hi hsm h1 h21 h22 h23 h0 h2 hB hK
    refine f18.p0_of ?_
    unfold f18.p0
    rw [h23, h22, h21]
    refine Som_of (bin_lss _ _ _ _) ?_
    refine WIf_t (by omega) ?_
    have hx : i < rs.length := by omega
    obtain ⟨q, q1, q2⟩ := hv.get1 (k := i) hx
    have hg : (strs rs)[i]? = some (.str rs[i]) := by
      show (rs.map AVal.str)[i]? = _
      rw [List.getElem?_map, List.getElem?_eq_getElem hx]; rfl
    rw [hg] at q2
    refine Som_of q1 (Som_of q2 (Som_of (vLenStr_str _) (Som_of (bin_gtr _ _ _ _) ?_)))
    refine WIf_dec (fun hgt => ?_) (fun hle => ?_)
    · rw [Ret_1 rfl]
      exact hB ⟨rs[i], List.getElem_mem _, by omega⟩
    · refine Som_of (bin_add _ _ _ _) ?_
      rw [wrap_i64_in (n := (i : Int) + 1) (by omega) (by omega)]
      refine ih _ σ fr (i + 1) v rs m hv hrs hrl (by omega) (fun r hr => ?_) (by simp [h1]) (by simp [h21]) (by simp [h22]) (by simp) (by simp [h0]) (by simp [h2]) hB hK
      rw [List.take_succ_eq_append_getElem hx] at hr
      rcases List.mem_append.1 hr with hr | hr
      · exact hsm r hr
      · have : r = rs[i] := by simpa using hr
        rw [this]; omega
theorem app_loop2 (ht : Tab tab) (n : Nat) : ∀ (E : En) (σ : S) (t : Pos) (tc : List AVal) (age fr i : Nat) (v : AVal) (rs : List (List Nat)) (m : Nat) (bv : AVal) (bs : List Nat) (mb : Nat), Ok σ → σ.blk t = some ⟨0, .ex, tc⟩ → tc[2]? = some (.int .i64 (age : Int)) → SlAt σ v 1 rs.length (strs rs) m → (∀ r ∈ rs, Bytes r ∧ r.length ≤ 20000) →
    age ≤ 1152921504606846977 → fr ≤ 2199023255552 → rs.length ≤ 10000000 → i + n = rs.length → ByGr σ bv bs mb → bs.length + n * 20048 ≤ 800000000000 → (rs ≠ [] → m ≠ mb) → t.nat ≠ mb →
    E 0 = .ptr t 0 → E 9 = bv → E 1 = .int .i64 (fr : Int) → E 64 = v → E 65 = .int .i64 (rs.length : Int) → E 66 = .int .i64 (i : Int) → E 2 = v →
    (∀ E' σ' bv' mb', ByGr σ' bv' (bs ++ framesF age (fr + i) (rs.drop i)) mb' → Keep (fun x => x = mb) σ σ' → (mb' = mb ∨ σ.next.nat ≤ mb') → E' 0 = .ptr t 0 → E' 9 = bv' → E' 1 = .int .i64 (fr : Int) → E' 2 = v → wC (WF tab) f18.c3 E' σ' (retK f18.res Q)) →
    f18.L2 (WF tab) Q E σ := by
  induction n with
  | zero =>
    intro E σ t tc age fr i v rs m bv bs mb ho htb htc hv hrs hage hfr hrl hi hb hbl hmm htm h0 h9 h1 h64 h65 h66 h2 hK
    refine f18.p2_of ?_
    unfold f18.p2
    rw [h66, h65]
    refine Som_of (bin_lss _ _ _ _) ?_
    refine WIf_f (by omega) ?_
    refine hK _ σ bv mb ?_ (Keep.refl ho) (.inl rfl) (by simp [h0]) (by simp [h9]) (by simp [h1]) (by simp [h2])
    rw [List.drop_of_length_le (by omega)]
    show ByGr σ bv (bs ++ []) mb
    rw [List.append_nil]; exact hb
  | succ n ih =>
    intro E σ t tc age fr i v rs m bv bs mb ho htb htc hv hrs hage hfr hrl hi hb hbl hmm htm h0 h9 h1 h64 h65 h66 h2 hK
    refine f18.p2_of ?_
    unfold f18.p2
    rw [h66, h65, h64, h0, h1, h9]
    refine Som_of (bin_lss _ _ _ _) ?_
    refine WIf_t (by omega) ?_
    have hx : i < rs.length := by omega
    obtain ⟨q, q1, q2⟩ := hv.get1 (k := i) hx
    have hg : (strs rs)[i]? = some (.str rs[i]) := by
      show (rs.map AVal.str)[i]? = _
      rw [List.getElem?_map, List.getElem?_eq_getElem hx]; rfl
    have hri := hrs rs[i] (List.getElem_mem _)
    rw [hg] at q2
    refine Som_of q1 (Som_of q2 (Som_of rfl (Som_of (vField0 _ _ _) (Som_of (ld htb htc) (Som_of (bin_add _ _ _ _) ?_)))))
    rw [wrap_i64_in (n := (fr : Int) + (i : Int)) (by omega) (by omega)]
    refine framed_c ht (kind := 1) (n := 0) (age := (age : Int)) (i := (fr : Int) + (i : Int)) ho (BySl.nil _) ⟨by omega, by omega⟩ ⟨by omega, by omega⟩ ⟨by omega, by omega⟩ ⟨by omega, by omega⟩ hri.1 (by rw [List.length_nil]; omega) fun w σ1 m1 g1 k1 l1 l1' => ?_
    have e1 : ((age : Int)).toNat = age := by omega
    have e2 : ((fr : Int) + (i : Int)).toNat = fr + i := by omega
    rw [e1, e2] at g1
    have g1 : ByGr σ1 w (putF [] (pay 1 age (fr + i) 0 rs[i])) m1 := g1
    have hpl := putF_nil_len (kind := 1) (age := age) (i := fr + i) (n := 0) (r := rs[i]) (by omega) (by omega) (by omega) (by omega)
    have hb1 := hb.keep (M := fun _ => False) (fun h => h) k1
    obtain ⟨w2, σ2, m2, a2, g2, k2, l2⟩ := append_sl k1.ok hb1 g1.sl (by rw [Nat.add_mul] at hbl; omega)
    refine Eff_of a2 (Som_of (bin_add _ _ _ _) ?_)
    rw [wrap_i64_in (n := (i : Int) + 1) (by omega) (by omega)]
    have n1 := k1.next
    have k02 : Keep (fun x => x = mb) σ σ2 := (Keep0.to k1).trans k2
    have hv2 := hv.keep (M := fun x => x = mb) (fun hz e => hmm (fun he => by subst he; simp at hz) e) k02
    have htb2 := k02.old _ _ htb htm
    have hmlt : rs ≠ [] → m < σ.next.nat := fun hne => SlAt.own_lt hv ho (by
      have := List.length_pos_iff.2 hne; omega)
    have htlt := ho.lt htb
    have hl2 : m2 = mb ∨ σ.next.nat ≤ m2 := by omega
    refine ih _ σ2 t tc age fr (i + 1) v rs m w2 (bs ++ putF [] (pay 1 age (fr + i) 0 rs[i])) m2 k02.ok htb2 htc hv2 hrs hage hfr hrl (by omega) g2 (by rw [List.length_append]; rw [Nat.add_mul] at hbl; omega) (fun hne => ?_) ?_ (by simp [h0]) (by simp) (by simp [h1]) (by simp [h64]) (by simp [h65]) (by simp) (by simp [h2]) ?_
    · have := hmm hne; have := hmlt hne; rcases hl2 with e | e <;> omega
    · rcases hl2 with e | e <;> omega
    · intro E' σ' bv' mb' hb' k' l' e0 e9 e1' e2'
      refine hK E' σ' bv' mb' ?_ (k02.then ho k' fun x hx e => ?_) (by have := k02.next; omega) e0 e9 e1' e2'
      · rw [List.drop_eq_getElem_cons hx]
        show ByGr σ' bv' (bs ++ (putF [] (pay 1 age (fr + i) 0 rs[i]) ++ framesF age (fr + i + 1) (rs.drop (i + 1)))) mb'
        rw [List.append_assoc] at hb'
        exact hb'
      · rcases hl2 with e' | e' <;> omega
def Lg.adds (L : Lg) : Nat → List (List Nat) → Lg
  | _, [] => L
  | i, r :: rs => (L.add i r).adds (i + 1) rs
theorem app_loop4 (ht : Tab tab) (n : Nat) : ∀ (E : En) (σ : S) (G M : Nat → Prop) (L : Lg) (rv : AVal) (mr fr i : Nat) (v : AVal) (rs : List (List Nat)) (m : Nat), Ok σ → WL σ G l d L D rv mr M → LgOk L → SlAt σ v 1 rs.length (strs rs) m → (∀ r ∈ rs, Bytes r ∧ r.length ≤ 20000) →
    fr ≤ 1099511627777 → rs.length ≤ 10000000 → i + n = rs.length → L.recs.length + n ≤ 1000000000 → L.live + n * 20048 ≤ 100000000000000 → (rs ≠ [] → ¬ M m) →
    E 0 = .ptr l 0 → E 1 = .int .i64 (fr : Int) → E 89 = v → E 90 = .int .i64 (rs.length : Int) → E 91 = .int .i64 (i : Int) →
    Then σ G M l d (L.adds (fr + i) (rs.drop i)) D (Q (.int .i64 0)) → f18.L4 (WF tab) Q E σ := by
  induction n with
  | zero =>
    intro E σ G M L rv mr fr i v rs m ho h hok hv hrs hfr hrl hi hmany hlive hmm h0 h1 h89 h90 h91 hQ
    refine f18.p4_of ?_
    unfold f18.p4
    rw [h91, h90]
    refine Som_of (bin_lss _ _ _ _) ?_
    refine WIf_f (by omega) ?_
    rw [Ret_1 rfl]
    rw [List.drop_of_length_le (by omega)] at hQ
    exact Then.here hQ h (Keep0.nil ho)
  | succ n ih =>
    intro E σ G M L rv mr fr i v rs m ho h hok hv hrs hfr hrl hi hmany hlive hmm h0 h1 h89 h90 h91 hQ
    refine f18.p4_of ?_
    unfold f18.p4
    rw [h91, h90, h89, h0, h1]
    refine Som_of (bin_lss _ _ _ _) ?_
    refine WIf_t (by omega) ?_
    have hx : i < rs.length := by omega
    obtain ⟨q, q1, q2⟩ := hv.get1 (k := i) hx
    have hg : (strs rs)[i]? = some (.str rs[i]) := by
      show (rs.map AVal.str)[i]? = _
      rw [List.getElem?_map, List.getElem?_eq_getElem hx]; rfl
    have hri := hrs rs[i] (List.getElem_mem _)
    rw [hg] at q2
    refine Som_of q1 (Som_of q2 (Som_of (bin_add _ _ _ _) ?_))
    rw [wrap_i64_in (n := (fr : Int) + (i : Int)) (by omega) (by omega)]
    have ec : (fr : Int) + (i : Int) = ((fr + i : Nat) : Int) := by omega
    rw [ec]
    rw [Nat.add_mul] at hlive
    have hne : rs ≠ [] := fun e => by subst e; simp at hx
    refine add_lc ht ho h.lg hok (by omega) hri (by omega) fun _ σ1 G1 rv1 mr1 h1' k1 g1 l1 => ?_
    obtain ⟨M1, hw1, k1', s1⟩ := h.setL ho h1' k1 g1 l1
    have hv1 := hv.keep (fun _ => hmm hne) k1'
    refine Som_of (bin_add _ _ _ _) ?_
    rw [wrap_i64_in (n := (i : Int) + 1) (by omega) (by omega)]
    have hmlt : m < σ.next.nat := SlAt.own_lt hv ho (by omega)
    have hlf := longF_le (age := L.age) (i := fr + i) (r := rs[i]) (by have := hok.age; omega) (by omega)
    refine ih _ σ1 G1 M1 (L.add (fr + i) rs[i]) rv1 mr1 fr (i + 1) v rs m k1.ok hw1 (hok.add (by omega) hri (by omega) (by omega)) hv1 hrs hfr hrl (by omega) ?_ ?_ (fun _ hM => ?_) (by simp [h0]) (by simp [h1]) (by simp [h89]) (by simp [h90]) (by simp) ?_
    · show (L.recs ++ [rs[i]]).length + n ≤ _
      rw [List.length_append]; show L.recs.length + 1 + n ≤ _; omega
    · show L.live + longF L.age (fr + i) rs[i] + n * 20048 ≤ _
      omega
    · rcases s1 m hM with h' | h'
      · exact hmm hne h'
      · omega
    · intro σ' G' M' rv' mr' hw' a b c
      refine Then.go hQ (by
        rw [List.drop_eq_getElem_cons hx]
        exact hw') (Rel3.trans ho ⟨k1', g1, s1⟩ ⟨a, b, c⟩)
end
end Go.Am
namespace Go.Am
section
variable {tab : Nat → Option PFn} {σ : S} {Q : AVal → S → Prop} {G M : Nat → Prop} {l d : Pos} {L : Lg} {D : Dk} {rv : AVal} {mr : Nat}
noncomputable def appB (L : Lg) (j : Nat) (rs : List (List Nat)) : List Nat := begunF L ++ framesF L.hd.age j rs
inductive AppOut (L : Lg) (D : Dk) (i : Int) (rs : List (List Nat)) : Int → Lg → Dk → Prop
  | arg : (¬ L.takes i rs.length ∨ ∃ r ∈ rs, 16284 < r.length) → AppOut L D i rs 1 L D
  | off : L.takes i rs.length → D.off = true → AppOut L D i rs 11 L D
  | noop : L.takes i rs.length → D.off = false → rs = [] → (L.recs ≠ [] ∨ i = L.first) → AppOut L D i rs 0 L D
  | left {j : Nat} {e : Int} {L' : Lg} {D' : Dk} : i = j → L.takes i rs.length → D.off = false → rs = [] → L.recs = [] → j ≠ L.first → LeftOut L D 4 j j [] e L' D' → AppOut L D i rs e L' D'
  | fail {j : Nat} {e : Int} {L' : Lg} {D' : Dk} : i = j → L.takes i rs.length → D.off = false → rs ≠ [] → (∀ r ∈ rs, r.length ≤ 16284) → PutOut L.hd D (appB L j rs) e L' D' → e ≠ 0 → AppOut L D i rs e L' D'
  | ok {j : Nat} {L' : Lg} {D' : Dk} : i = j → L.takes i rs.length → D.off = false → rs ≠ [] → (∀ r ∈ rs, r.length ≤ 16284) → PutOut L.hd D (appB L j rs) 0 L' D' → AppOut L D i rs 0 (L'.adds j rs) D'
theorem append_o (ht : Tab tab) (ho : Ok σ) (h : WL σ G l d L D rv mr M) (hok : LgOk L) (hdk : DkOk D) (hwn : D.wait.length + 10 < 1000000000) (hfile : L.file = 8 ∨ L.file = 9) (hage : L.age < 1152921504606846975) {v : AVal} {rs : List (List Nat)} {m : Nat} {i : Int} (hi : -9223372036854775808 ≤ i ∧ i ≤ 9223372036854775807)
    (hv : SlAt σ v 1 rs.length (strs rs) m) (hrs : ∀ r ∈ rs, Bytes r ∧ r.length ≤ 20000) (hrl : rs.length ≤ 100) (hmm : rs ≠ [] → ¬ M m) (hmany : L.recs.length ≤ 999990000) (hlive : L.live ≤ 99999900000000)
    (hQ : ∀ e L' D', AppOut L D i rs e L' D' → Then σ G M l d L' D' (Q (.int .i64 e))) : WF tab 18 [.ptr l 0, .int .i64 i, v] σ Q := by
  refine f18_wf ht.t18 ?_
  unfold f18
  refine Som_of hv.len ?_
  refine takes_c ht ho h.lg hok (n := rs.length) (by omega) hi fun σ1 k1 => ?_
  refine Som_of (un_not _) ?_
  by_cases htk : L.takes i rs.length
  case neg =>
    rw [decide_eq_false htk, show (!false) = true from rfl, WIf_true, Ret_1 rfl]
    exact Then.here (hQ _ _ _ (.arg (.inl htk))) h k1
  rw [decide_eq_true htk, show (!true) = false from rfl, WIf_false]
  have h1 := h.keep0 k1
  have hv1 := hv.keep (M := fun _ => False) (fun _ h => h) k1
  refine Som_of hv1.len ?_
  refine app_loop0 (l := l) rs.length _ σ1 i 0 v rs m hv1 hrs (by omega) (by omega) (by simp) (by simp) (by simp) (by simp) (by simp) (by simp) (by simp) (fun hb => ?_) (fun hsm E e1 e0 e2 => ?_)
  · exact Then.here (hQ _ _ _ (.arg (.inr hb))) h k1
  refine f18.p1_of ?_
  unfold f18.p1
  rw [e0, e1, e2]
  refine Som_of rfl (Som_of (vField0 _ _ _) (Som_of (ld h1.lg.blk rfl) ?_))
  have hd := h1
  obtain ⟨pf, ps, fv, sv, wv, wc, mw, hd, _⟩ := hd
  refine off_c ht hd.dk ?_
  cases hoff : D.off with
  | true =>
    rw [WIf_true, Ret_1 rfl]
    exact Then.here (hQ _ _ _ (.off htk hoff)) h k1
  | false =>
  rw [WIf_false]
  have hf := hok.first; have hm := hok.many
  have hi0 : 0 ≤ i ∧ i ≤ 1099511627777 := by
    have h3 := htk.2.2
    by_cases hz : L.recs = []
    · have := htk.2.1 hz; omega
    · have := htk.1 hz; omega
  obtain ⟨j, hj⟩ := Int.eq_ofNat_of_zero_le hi0.1
  refine Som_of hv1.len (Som_of (bin_eql _ _ _ _) ?_)
  by_cases hz : rs = []
  · have hl0 : (rs.length : Int) = 0 := by rw [hz]; rfl
    rw [decide_eq_true hl0]
    refine Sq_of rfl rfl (Sq_of rfl rfl (Sq_of rfl (vField0 _ _ _) (Sq_of rfl (ld h1.lg.blk rfl) (Sq_of rfl h1.lg.rg.sl.len (Sq_of rfl (bin_gtr _ _ _ _) ?_)))))
    have leave : ∀ (_ : L.recs = []) (_ : j ≠ L.first), WF tab 47 [.ptr l 0, .int .i64 4, .int .i64 i, .int .i64 i, .nsl] σ1 fun t61 σ2 => Ret [some t61] σ2 Q := fun hr hne => by
      subst hj
      refine left_o ht k1.ok h1 hok hdk hwn hfile (kind := 4) (rs := []) (m := mr) (by omega) (by omega) (GrAt.nil σ1 1 mr).sl (fun h => absurd rfl h) (by simp) (by omega) (by simp) hage fun e L' D' hout => ?_
      refine Then.of k1 ?_
      intro σ' G' M' rv' mr' hw' a b c
      rw [Ret_1 rfl]
      exact hQ _ _ _ (.left rfl htk hoff hz hr hne hout) σ' G' M' rv' mr' hw' a b c
    by_cases hr : (0 : Int) < (L.recs.length : Int)
    · rw [decide_eq_true hr]
      refine Sq_of rfl rfl (Som_of rfl (Som_of rfl (Som_of rfl (Som_of rfl (Som_of rfl (Som_of rfl (Sq_of rfl rfl (Som_of rfl ?_))))))))
      rw [WIf_true, Ret_1 rfl]
      exact Then.here (hQ _ _ _ (.noop htk hoff hz (.inl fun e => by rw [e] at hr; simp at hr))) h k1
    · rw [decide_eq_false hr]
      have hr0 : L.recs = [] := List.eq_nil_of_length_eq_zero (by omega)
      refine Sq_of rfl rfl (Sq_of rfl rfl (Sq_of rfl rfl (Sq_of rfl rfl (Sq_of rfl (vField0 _ _ _) (Sq_of rfl (ld h1.lg.blk rfl) (Sq_of rfl (bin_eql _ _ _ _) (Sq_of rfl rfl (Som_of rfl ?_))))))))
      refine WIf_dec (fun he => ?_) (fun hne => ?_)
      · rw [Ret_1 rfl]
        exact Then.here (hQ _ _ _ (.noop htk hoff hz (.inr he))) h k1
      · refine Som_of hv1.len (Som_of (bin_eql _ _ _ _) (WIf_t hl0 ?_))
        exact leave hr0 (by omega)
  · have hl0 : (rs.length : Int) ≠ 0 := fun e => hz (List.eq_nil_of_length_eq_zero (by omega))
    rw [decide_eq_false hl0]
    refine Som_of rfl (Som_of rfl (Som_of rfl (Som_of rfl (Som_of rfl (Som_of rfl (Som_of rfl (Som_of rfl (Som_of rfl (Som_of rfl (Som_of rfl (Som_of rfl (Som_of rfl (Som_of rfl (Som_of rfl ?_))))))))))))))
    rw [WIf_false]
    refine Som_of hv1.len (Som_of (bin_eql _ _ _ _) (WIf_f hl0 ?_))
    have hmM : M mr := h.hr
    have hlt := h.lt
    refine begun_c ht k1.ok h1.lg hok fun bv mb σ2 h2 g2 l2 k2 => ?_
    obtain ⟨q1, q2, q3, q4, q5, q6⟩ := L.hd_same
    have hok1 := hok.hd
    have hlM : M l.nat := h.hl
    have hv2 := hv1.keep (M := fun x => x = l.nat) (fun _ e => hmm hz (by rw [e]; exact hlM)) k2
    have hb1 := begunF_len L hok
    have hbb1 := begunF_bytes L
    have hage1 : L.hd.age ≤ 1152921504606846975 := by omega
    have hpB : appB L j rs = begunF L ++ framesF L.hd.age j rs := rfl
    have hfl := framesF_len (age := L.hd.age) (i := j) (rs := rs) (by omega) (by omega) hrs
    have hfb := framesF_bytes (age := L.hd.age) (i := j) hrs
    generalize hLh : L.hd = Lh at *
    refine Som_of hv2.len ?_
    have n1 := k1.next; have n2 := k2.next
    have hmlt0 : m < σ.next.nat := SlAt.own_lt hv ho (by have := List.length_pos_iff.2 hz; omega)
    have hmlt : m < σ1.next.nat := by omega
    have hllt := k1.ok.lt h1.lg.blk
    subst hj
    refine app_loop2 ht rs.length _ σ2 l _ Lh.age j 0 v rs m bv (begunF L) mb k2.ok h2.blk rfl hv2 hrs (by omega) (by omega) (by omega) (by omega) g2 (by omega) (fun _ => by omega) (by omega) (by simp [e0]) (by simp) (by simp [e1]) (by simp) (by simp) (by simp) (by simp [e2]) ?_
    intro E' σ3 bv' mb' g3 k3 l3 f0 f9 f1 f2
    have g3 : ByGr σ3 bv' (appB L j rs) mb' := by rw [hpB]; exact g3
    have k12 : Keep (fun x => x = l.nat) σ σ2 := (Keep0.to k1).trans k2
    have k13 : Keep (fun x => x = l.nat) σ σ3 := k12.then ho k3 fun x hx e => by omega
    have h3 : LgAt σ3 G l d Lh rv mr := h2.keep k3 fun x hx e => by
      have : x < σ1.next.nat := by
        rcases hx with hx | hx
        · rw [hx]; exact hllt
        · rw [hx]; exact h1.lg.gl _ h1.lg.g2
      omega
    obtain ⟨M3, hw3, k3', s3⟩ := h.setL ho h3 (k13.mono fun x e => .inl e) (Gr.refl _ _) (.inl rfl)
    have r3 : Rel3 σ G M σ3 G M3 := ⟨k3', Gr.refl _ _, s3⟩
    have hv3 := hv.keep (fun _ => hmm hz) k3'
    refine f18.p3_of ?_
    unfold f18.p3
    rw [f0, f9, f2]
    have hGm : ¬ G mb' := fun hg => by
      have := h.gl mb' hg; omega
    refine put_o ht k13.ok hw3 hok1 hdk (by omega) (by rw [q1]; omega) g3.sl (by rw [hpB]; exact hbb1.app hfb) (fun _ => hGm) (by rw [hpB, List.length_append]; omega) fun e L' D' hout => ?_
    intro σ' G' M' rv' mr' hw' a b c
    have r' : Rel3 σ3 G M3 σ' G' M' := ⟨a.mono fun x hx => hx.1, b, c⟩
    refine Som_of (bin_neq _ _ _ _) ?_
    refine WIf_dec (fun hne => ?_) (fun hez => ?_)
    · rw [Ret_1 rfl]
      exact Then.go (hQ _ _ _ (.fail rfl htk hoff hz hsm (by rw [hLh]; exact hout) hne)) hw' (r3.trans ho r')
    · have he : e = 0 := by omega
      subst he
      have hM3 : ¬ M3 m := fun hx => by
        rcases s3 m hx with hx | hx
        · exact hmm hz hx
        · omega
      have hv4 := hv3.keep (fun _ => hM3) r'.k
      refine Som_of hv4.len ?_
      have hokL' : LgOk L' ∧ L'.recs = Lh.recs ∧ L'.live = Lh.live := by
        cases hout with
        | ok a b c =>
          have := room_len hdk.count c b
          have hLs := hok1.size
          exact ⟨⟨hok1.age, hok1.first, hok1.recs, hok1.many, by show Lh.size + _ ≤ _; omega, hok1.live⟩, rfl, rfl⟩
      obtain ⟨o1, o2, o3⟩ := hokL'
      have hM' : ¬ M' m := fun hx => by
        rcases c m hx with hx | hx
        · exact hM3 hx
        · have := k13.next; omega
      refine app_loop4 ht rs.length _ σ' G' M' L' rv' mr' j 0 v rs m a.ok hw' o1 hv4 hrs (by omega) (by omega) (by omega) (by rw [o2, q3]; omega) (by rw [o3, q5]; omega) (fun _ => hM') (by simp [f0]) (by simp [f1]) (by simp) (by simp) (by simp) ?_
      intro σ5 G5 M5 rv5 mr5 hw5 a5 b5 c5
      exact Then.go (hQ _ _ _ (.ok rfl htk hoff hz hsm (by rw [hLh]; exact hout))) hw5 ((r3.trans ho r').trans ho ⟨a5, b5, c5⟩)
end
end Go.Am
namespace Go.Am
section
variable {tab : Nat → Option PFn} {σ : S} {Q : AVal → S → Prop} {G M : Nat → Prop}
theorem bin_rem (tk : TK) (k : IntKind) (a b : Int) (h : b ≠ 0) : binA .rem tk (.int k a) (.int k b) = some (.int k (Int.tmod a b)) := by
  rw [binA_int rfl]
  show remI k a b = _
  unfold remI
  have : ieq b 0 = false := by
    rw [ieq_eq]; exact decide_eq_false h
  rw [this]; show outI k (Int.tmod a b) = _; rw [outI_eq]
theorem new_c (ht : Tab tab) (ho : Ok σ) (hg : ∀ x, G x → x < σ.next.nat) {q : Nat} (hq : q ≤ 1048576)
    (hQ : ∀ d pf ps σ', DkAt σ' (fun x => G x ∨ x = d.nat ∨ x = pf.nat ∨ x = ps.nat ∨ x = σ.next.nat) d (Dk.fresh q) pf ps (List.replicate 64 .nsl) (List.replicate 64 .nsl) .nsl [] σ.next.nat → Keep0 σ σ' →
      σ.next.nat ≤ d.nat → σ.next.nat ≤ pf.nat → σ.next.nat ≤ ps.nat → Q (.tup [.ptr d 0, .int .i64 0]) σ') : WF tab 9 [.int .i64 (q : Int)] σ Q := by
  refine f9_wf ht.t9 ?_
  unfold f9
  refine Som_of (bin_lss _ _ _ _) ?_
  rw [decide_eq_false (show ¬ (q : Int) < 0 by omega)]
  refine Sq_of rfl rfl (Sq_of rfl (bin_gtr _ _ _ _) (Som_of rfl (WIf_dec (fun h => absurd h (by omega)) fun _ => ?_)))
  refine fresh_c ht ho hg fun d pf ps σ' hd k a b c => ?_
  rw [Ret_2 rfl rfl]
  exact hQ d pf ps σ' hd k a b c
end
end Go.Am
namespace Go.Am
section
variable {tab : Nat → Option PFn} {σ : S} {Q : AVal → S → Prop} {G M : Nat → Prop} {l d : Pos} {L : Lg} {D : Dk} {rv : AVal} {mr : Nat}
theorem loopF_age (b : List Nat) (n : Nat) : ∀ (L : Lg) (w : Nat), (loopF b n L w).1.age = L.age ∧ (loopF b n L w).1.file = L.file := by
  induction n with
  | zero => intro L w; exact ⟨rfl, rfl⟩
  | succ n ih =>
    intro L w
    unfold loopF
    split
    · rename_i x to hx
      split
      · rename_i ha
        split
        · rename_i L' hr
          have h1 := ih { L' with size := to } (if x.kind = 1 ∧ 0 < w then w - 1 else w)
          have h2 := redoF_age hr
          exact ⟨h1.1.trans h2.1, h1.2.trans h2.2⟩
        · exact ⟨rfl, rfl⟩
      · exact ⟨rfl, rfl⟩
    · exact ⟨rfl, rfl⟩
theorem readF_file {b : List Nat} {k : Nat} {L : Lg} (h : readF b k = some L) : L.file = k ∧ 1 ≤ L.age ∧ L.age < 1125899906842624 := by
  unfold readF at h
  split at h
  · rename_i x to hx
    split at h
    · rename_i hh
      split at h
      · have e := Option.some.inj h
        have := loopF_age b (b.length + 1) ⟨k, x.age.toNat, x.i.toNat, [], to, 0⟩ x.n.toNat
        rw [e] at this
        obtain ⟨c1, c2, c3, c4, c5, c6⟩ := hh
        exact ⟨this.2, by rw [this.1]; show 1 ≤ x.age.toNat; omega, by rw [this.1]; show x.age.toNat < _; omega⟩
      · cases h
    · cases h
  · cases h
structure LgSt (a : Nat) (L : Lg) : Prop where
  ok : LgOk L
  inn : LgIn L
  many : L.recs.length ≤ 3200000 + a
  size : L.size ≤ 3200000
  live : L.live ≤ L.recs.length * 20048
  file : L.file = 8 ∨ L.file = 9
  age : L.age < 1125899906842624 + a
def Lg.none : Lg := ⟨8, 0, 1, [], 0, 0⟩
theorem LgSt.none : LgSt 0 Lg.none := ⟨⟨by show 0 ≤ _; omega, by show 1 ≤ _; omega, fun r hr => (by cases hr), Nat.zero_le _, Nat.zero_le _, Nat.zero_le _⟩, ⟨Nat.le_refl 1, by show 1 + 0 ≤ _; omega⟩, Nat.zero_le _, Nat.zero_le _, Nat.zero_le _, .inl rfl, by show 0 < _; omega⟩
theorem RdIn.st {b : List Nat} {k : Nat} (h : RdIn b L) (hr : readF b k = some L) (hb : b.length ≤ 2097152) (hk : k = 8 ∨ k = 9) : LgSt 0 L := by
  obtain ⟨h1, h2, h3⟩ := readF_file hr
  have := h.size; have := h.many
  exact ⟨h.ok, h.inn, by omega, by omega, h.live, by rw [h1]; exact hk, by omega⟩
def pickL (L : Lg) (x : Option Lg) : Lg := match x with | .none => L | some y => if L.age < y.age then y else L
theorem Dk.file_at (D : Dk) {k : Nat} {bs : List Nat} (h : D.files[k]? = some bs) : D.file k = bs := by
  unfold Dk.file; rw [List.getD_eq_getElem?_getD, h]; rfl
theorem open_step0 (ht : Tab tab) {pf ps : Pos} {fv sv wc : List AVal} {wv : AVal} {mw : Nat} {E : En} (ho : Ok σ) (h : WlAt σ G l d L D rv mr pf ps fv sv wv wc mw) (hst : LgSt 0 L) (hdk : DkOk D) (hoff : D.off = false) {i : Nat} (hi : i < 2) {v : AVal} {m : Nat}
    (hv : SlAt σ v 1 2 [.int .i64 8, .int .i64 9] m) (h0 : E 0 = .ptr d 0) (h4 : E 4 = .ptr l 0) (h17 : E 17 = v) (h18 : E 18 = .int .i64 2) (h19 : E 19 = .int .i64 (i : Int))
    (hK : ∀ E' σ' G' l' L' rv' mr', L' = pickL L (readF (D.file (8 + i)) (8 + i)) → WlAt σ' G' l' d L' D rv' mr' pf ps fv sv wv wc mw → LgSt 0 L' → Keep0 σ σ' → Gr σ G G' → ((l' = l ∧ mr' = mr) ∨ (σ.next.nat ≤ l'.nat ∧ σ.next.nat ≤ mr')) →
      E' 0 = .ptr d 0 → E' 4 = .ptr l' 0 → E' 17 = v → E' 18 = .int .i64 2 → E' 19 = .int .i64 ((i + 1 : Nat) : Int) → f12.L0 (WF tab) Q E' σ') : f12.L0 (WF tab) Q E σ := by
  refine f12.p0_of ?_
  unfold f12.p0
  rw [h19, h18, h17, h0, h4]
  refine Som_of (bin_lss _ _ _ _) (WIf_t (by omega) ?_)
  obtain ⟨q, q1, q2⟩ := hv.get1 (k := i) hi
  have q2' : vLoad1 q σ = some (.int .i64 ((8 + i : Nat) : Int)) := by
    rw [q2]
    have : i = 0 ∨ i = 1 := by omega
    rcases this with e | e <;> subst e <;> rfl
  refine Som_of q1 (Som_of q2' ?_)
  have e1 : IntKind.i64.wrap ((i : Int) + 1) = ((i + 1 : Nat) : Int) := by
    rw [wrap_i64_in (n := (i : Int) + 1) (by omega) (by omega)]; omega
  refine readw_c ht ho h.dk hdk hoff (k := 8 + i) (by omega) (fun σ' bs hf hr k => ?_) (fun σ' bs G' l' L' rv' mr' hf hr hl hin k g n1 n2 => ?_)
  · rw [show binA .neq .ptr AVal.nptr .nptr = some (.bool false) from rfl]
    refine Som_of rfl ?_
    refine Som_of rfl (Som_of rfl (Som_of rfl (Som_of rfl (Som_of rfl (Som_of rfl (Som_of rfl (Som_of rfl (Som_of rfl (Som_of rfl ?_)))))))))
    rw [WIf_false]
    refine Som_of (bin_add _ _ _ _) ?_
    rw [e1]
    have k2 := k.trans (Keep.bump k.ok 13)
    have hf' := D.file_at hf
    refine hK _ _ G l L rv mr ?_ ⟨h.lg.keep0 k2, h.dk.keep0 k2, h.ap⟩ hst k2 (Gr.refl _ _) (.inl ⟨rfl, rfl⟩) (by simp [h0]) (by simp [h4]) (by simp [h17]) (by simp [h18]) (by simp)
    rw [hf', hr]; rfl
  · have hf' := D.file_at hf
    have hb := hdk.fl bs (List.mem_of_getElem? hf)
    have hst' : LgSt 0 L' := hin.st hr hb.1 (by omega)
    have k2 := k.trans (Keep.bump k.ok 13)
    have hl2 := hl.keep0 (Keep.bump k.ok 13)
    have hdM : ∀ x, dM d pf ps mw x → x < σ.next.nat := fun x hd => by
      rcases hd with hd | hd | hd | hd
      · rw [hd]; exact h.dk.gl _ h.dk.g1
      · rw [hd]; exact h.dk.gl _ h.dk.g2
      · rw [hd]; exact h.dk.gl _ h.dk.g3
      · rw [hd]; exact h.dk.gl _ h.dk.g4
    have hdk2 : DkAt (σ'.bumpT 13) G' d D pf ps fv sv wv wc mw := h.dk.move ho k2 (fun _ h => h.elim) (fun _ _ h => h.elim) g hl2.gl
    have hlo : LgAt (σ'.bumpT 13) G' l d L rv mr := h.lg.move k2 (fun _ _ h => h.elim) g hl2.gl
    rw [show binA .neq .ptr (AVal.ptr l' 0) .nptr = some (.bool true) from rfl]
    refine Som_of rfl ?_
    refine Sq_of rfl rfl (Sq_of rfl rfl (Sq_of rfl (vField0 _ _ _) (Sq_of rfl (ld hl2.blk rfl) (Sq_of rfl rfl (Sq_of rfl rfl (Sq_of rfl (vField0 _ _ _) (Sq_of rfl (ld hlo.blk rfl) (Sq_of rfl (bin_gtr _ _ _ _) (Som_of rfl ?_)))))))))
    refine WIf_dec (fun hgt => ?_) (fun hle => ?_)
    · refine Som_of (bin_add _ _ _ _) ?_
      rw [e1]
      refine hK _ _ G' l' L' rv' mr' ?_ ⟨hl2, hdk2, fun x hx hd => ?_⟩ hst' k2 g (.inr ⟨n1, n2⟩) (by simp [h0]) (by simp) (by simp [h17]) (by simp [h18]) (by simp)
      · rw [hf', hr]; show L' = if L.age < L'.age then L' else L
        rw [if_pos (by omega)]
      · have := hdM x hd
        rcases hx with hx | hx <;> omega
    · refine Som_of (bin_add _ _ _ _) ?_
      rw [e1]
      refine hK _ _ G' l L rv mr ?_ ⟨hlo, hdk2, h.ap⟩ hst k2 g (.inl ⟨rfl, rfl⟩) (by simp [h0]) (by simp [h4]) (by simp [h17]) (by simp [h18]) (by simp)
      rw [hf', hr]; show L = if L.age < L'.age then L' else L
      rw [if_neg (by omega)]
end
end Go.Am
