/-
  The store, as conditions over the evaluator. Conditions: none.
-/
import Derived.Test.YtkgjghlklniaeaaS0
namespace Go.Am
section
variable {tab : Nat → Option PFn} {σ σ' σ0 : S} {Q : AVal → S → Prop} {G0 G G' M M' : Nat → Prop} {l d pm s : Pos} {a w : Nat} {x x' : Me} {y y' : Sv} {lv lv' : AVal}
theorem made2c (a b z1 z2 : AVal) : aSliceV 2 [z1, z2] 1 [(0, 2, .agg [a, b])] = some (⟨2, .ex, [a, b]⟩, fun p => .sl p 0 1 1) := rfl
def Own2 (σ : S) (v : AVal) (es : List (Int × List Nat)) (t3 : Pos) (n0 : Nat) : Prop := (es = [] ∧ v = .nsl) ∨ ∃ m, es ≠ [] ∧ GrAt σ v 2 es.length (ents es) m ∧ m ≠ t3.nat ∧ n0 ≤ m ∧ m < σ.next.nat
theorem Own2.keep {N : Nat → Prop} {v : AVal} {es : List (Int × List Nat)} {t3 : Pos} {n0 : Nat} (h : Own2 σ v es t3 n0) (k : Keep N σ σ') (hn : ∀ z, N z → σ.next.nat ≤ z ∨ z = t3.nat) : Own2 σ' v es t3 n0 := by
  rcases h with h | ⟨m, h1, h2, h3, h4, h5⟩
  · exact .inl h
  · exact .inr ⟨m, h1, h2.keep (fun e => by rcases hn m e with g | g; omega; exact h3 g) k, h3, h4, by have := k.next; omega⟩
theorem Own2.gr {v : AVal} {es : List (Int × List Nat)} {t3 : Pos} {n0 : Nat} (h : Own2 σ v es t3 n0) (ht3 : t3.nat < σ.next.nat) (hn : n0 ≤ σ.next.nat) : ∃ m, GrAt σ v 2 es.length (ents es) m ∧ m ≠ t3.nat ∧ n0 ≤ m := by
  rcases h with ⟨rfl, rfl⟩ | ⟨m, _, h2, h3, h4, _⟩
  · exact ⟨σ.next.nat, GrAt.nil σ 2 _, by omega, hn⟩
  · exact ⟨m, h2, h3, h4⟩
theorem Own2.en {v : AVal} {es : List (Int × List Nat)} {t3 : Pos} {n0 : Nat} (h : Own2 σ v es t3 n0) : ∃ m, EnAt σ v es m ∧ (es ≠ [] → n0 ≤ m) := by
  rcases h with ⟨rfl, rfl⟩ | ⟨m, _, h2, _, h4, _⟩
  · exact ⟨0, SlAt.nil σ 2 0, fun h => absurd rfl h⟩
  · exact ⟨m, h2.sl, fun _ => h4⟩
theorem add_entry (ho : Ok σ) {h : Hd} {es : List (Int × List Nat)} {v : AVal} {t3 : Pos} {n0 : Nat} {e : Int × List Nat} {xv : AVal} {mx : Nat} (hb : σ.blk t3 = some ⟨0, .ex, ({ h with log := es } : Hd).cells v⟩) (ho2 : Own2 σ v es t3 n0) (hn3 : n0 ≤ t3.nat) (hn : n0 ≤ σ.next.nat) (hx : SlAt σ xv 2 1 [.int .i64 e.1, .str e.2] mx) (hl : es.length ≤ 10000000)
    {K : AVal → AVal → S → Prop} (hK : ∀ v' ad σ', σ'.blk t3 = some ⟨0, .ex, ({ h with log := es ++ [e] } : Hd).cells v'⟩ → Own2 σ' v' (es ++ [e]) t3 n0 → Keep (fun z => n0 ≤ z) σ σ' → K v' ad σ') :
    Eff (appendA 2 24 v xv σ) fun t52 σ6 => Som (vFieldAddr 5 (.ptr t3 0)) fun t53 => Eff (storeW 1 t53 t52 σ6) fun _ σ7 => K t52 t53 σ7 := by
  obtain ⟨m, hg, hm3, hnm⟩ := ho2.gr (ho.lt hb) hn
  obtain ⟨v', σ', m', a1, g1, k1, l1⟩ := append_gr ho hg hx.slLen (hx.slRead (Nat.le_refl 1)) (by rfl) (bytes := 24) (by omega)
  refine Eff_of a1 (Som_of (vField0 _ _ _) ?_)
  have hb' := k1.old _ _ hb hm3.symm
  refine Eff_of (store1_of hb' (by simp [Hd.cells]) g1.sl.cells) ?_
  have e1 : (({ h with log := es } : Hd).cells v).set (0 + 5) v' = ({ h with log := es ++ [e] } : Hd).cells v' := rfl
  rw [e1]
  have k2 : Keep (fun z => z = t3.nat) σ' (σ'.upd t3 ⟨0, .ex, ({ h with log := es ++ [e] } : Hd).cells v'⟩) := Keep.upd k1.ok hb' rfl
  have hlt := ho.lt hb
  have hm3' : m' ≠ t3.nat := by rcases l1 with q | q <;> omega
  have g2 : GrAt σ' v' 2 (es ++ [e]).length (ents (es ++ [e])) m' := by
    rw [List.length_append, ents_app]; exact g1
  have g3 := g2.keep (fun e => hm3' e) k2
  have hne : (es ++ [e]) ≠ [] := by simp
  refine hK v' _ _ (blk_upd_same _ _) (.inr ⟨m', hne, g3, hm3', by rcases l1 with q | q <;> omega, ?_⟩) ((k1.mono fun z q => by rw [q]; exact hnm).trans (k2.mono fun z q => by rw [q]; exact hn3))
  exact SlAt.own_lt g3.sl k2.ok (by rw [List.length_append]; show (es.length + 1) * 2 ≠ 0; omega)
theorem found_loop (ht : Tab tab) {L : Lg} {rv : AVal} {mr n0 : Nat} {ss : List AVal} (hst : LgSt a L) (hlm : ∀ z, lM l mr z → z < n0) (hsn : s.nat < n0) (hs1 : ss[1]? = some (.ptr l 0)) {h : Hd} (ha : a ≤ 100000) (hb0 : 0 ≤ h.base) (hb1 : h.base ≤ 1099511627776) (hfi : (L.first : Int) ≤ h.base + 1) (ho : Ok σ) (hn0 : σ.next.nat ≤ n0)
    (hQ : ∀ v es m σ', EnAt σ' v es m → (es ≠ [] → n0 ≤ m) → Hd.Right { h with log := es } → (∀ e ∈ es, Bytes e.2) → es.length ≤ 3200000 + a → Keep0 σ σ' → Q v σ') (n : Nat) :
    ∀ (E : En) (σ2 : S) (es : List (Int × List Nat)) (v : AVal) (t3 : Pos), es.length + n = L.recs.length + 1 → n0 ≤ σ2.next.nat → Keep (fun z => n0 ≤ z) σ σ2 → LgAt σ2 G l d L rv mr → σ2.blk s = some ⟨0, .ex, ss⟩ → σ2.blk t3 = some ⟨0, .ex, ({ h with log := es } : Hd).cells v⟩ → Own2 σ2 v es t3 n0 →
      n0 ≤ t3.nat → es.length ≤ L.recs.length → Hd.Right { h with log := es } → (∀ e ∈ es, Bytes e.2) → E 0 = .ptr s 0 → E 3 = .ptr t3 0 → E 4 = .int .i64 (h.base + 1 + (es.length : Int)) → f63.L0 (WF tab) Q E σ2 := by
  induction n with
  | zero =>
    intro E σ2 es v t3 hn _ k hlg hs ht3 ho2 hnt hle0 hr hby e0 e3 e4
    exact absurd hn (by omega)
  | succ n ih =>
    intro E σ2 es v t3 hn hn2 k hlg hs ht3 ho2 hnt hle0 hr hby e0 e3 e4
    refine f63.p0_of ?_
    unfold f63.p0
    rw [e0, e3, e4]
    have hmany := hst.many; have hin := hst.inn.hi; have hlo := hst.inn.lo
    refine Som_of rfl (Som_of (vField0 _ _ _) (Som_of (ld hs hs1) ?_))
    refine last_c ht k.ok hlg hst.ok fun σ3 k3 => ?_
    have hlg3 := hlg.keep0 k3
    have hs3 := k3.old _ _ hs (fun h => h)
    have ht33 := k3.old _ _ ht3 (fun h => h)
    have ho3 := ho2.keep k3 (fun _ h => h.elim)
    have kk3 : Keep (fun z => n0 ≤ z) σ σ3 := k.trans k3.to
    have hnx : (L.next : Int) = (L.first : Int) + (L.recs.length : Int) := by unfold Lg.next; omega
    have hn3 := k3.next
    refine Som_of (bin_leq _ _ _ _) (WIf_dec (fun hle => ?_) (fun _ => ?_))
    case refine_2 =>
      refine Som_of (vField0 _ _ _) (Som_of (ld ht33 rfl) ?_)
      obtain ⟨m, hen, hnm⟩ := ho3.en
      rw [Ret_1 hen.v1]
      exact hQ v es m σ3 hen hnm hr hby (by omega) (kk3.old0 ho hn0)
    have hel2 : es.length + 1 ≤ L.recs.length := by omega
    refine Som_of rfl (Som_of (vField0 _ _ _) (Som_of (ld hs3 hs1) ?_))
    refine entry_c ht k3.ok hlg3 hst (by omega) fun e b σ4 _ heb hel4 k4 => ?_
    refine Som_of rfl (Som_of rfl ?_)
    have ht34 := k4.old _ _ ht33 (fun h => h)
    have ho4 := ho3.keep k4 (fun _ h => h.elim)
    have kk4 : Keep (fun z => n0 ≤ z) σ σ4 := kk3.trans k4.to
    have hlg4 := hlg3.keep0 k4
    have hs4 := k4.old _ _ hs3 (fun h => h)
    obtain ⟨k5, b5, n5⟩ := boxC k4.ok [.int .i64 0, .str []]
    refine Ala_of (show aAllocV [.int .i64 0, .str []] = some (⟨0, .ex, [.int .i64 0, .str []]⟩, fun p => .ptr p 0) from rfl) ?_
    have hlt3 := k4.ok.lt ht34
    have hn4 := k4.next
    have ht35 := k5.old _ _ ht34 (fun h => h)
    have ho5 := ho4.keep k5 (fun _ h => h.elim)
    have kk5 : Keep (fun z => n0 ≤ z) σ _ := kk4.trans k5.to
    have hlg5 := hlg4.keep0 k5
    have hs5 := k5.old _ _ hs4 (fun h => h)
    generalize ht5 : σ4.next = t5 at *
    have hq5 : σ4.next.nat = t5.nat := by rw [ht5]
    generalize σ4.new ⟨0, .ex, [.int .i64 0, .str []]⟩ = σ5 at *
    refine Eff_of (storeN_of (xs := [.int .i64 e.1, .str e.2]) b5 rfl (by omega) (by simp)) ?_
    have q1 : ([AVal.int .i64 0, .str []].take 0 ++ [.int .i64 e.1, .str e.2] ++ [AVal.int .i64 0, .str []].drop (0 + 2)) = [.int .i64 e.1, .str e.2] := rfl
    rw [q1]
    have k56 : Keep0 σ4 (σ5.upd t5 ⟨0, .ex, [.int .i64 e.1, .str e.2]⟩) := k5.then k4.ok (Keep.upd k5.ok b5 (c := ⟨0, .ex, [.int .i64 e.1, .str e.2]⟩) rfl) fun z hz q => by have q : z = t5.nat := q; rw [ht5] at hz; omega
    have b6 : (σ5.upd t5 ⟨0, .ex, [.int .i64 e.1, .str e.2]⟩).blk t5 = some ⟨0, .ex, [.int .i64 e.1, .str e.2]⟩ := blk_upd_same _ _
    have n6 : (σ5.upd t5 ⟨0, .ex, [.int .i64 e.1, .str e.2]⟩).next = σ5.next := rfl
    generalize σ5.upd t5 ⟨0, .ex, [.int .i64 e.1, .str e.2]⟩ = σ6 at *
    have ht36 := k56.old _ _ ht34 (fun h => h)
    have ho6 := ho4.keep k56 (fun _ h => h.elim)
    have hs6 := k56.old _ _ hs4 (fun h => h)
    have hlg6 := hlg4.keep0 k56
    have kk6 : Keep (fun z => n0 ≤ z) σ σ6 := kk4.trans k56.to
    refine Som_of (vField0 _ _ _) (Som_of (ld ht36 rfl) (Som_of (ldN (n := 2) (xs := [.int .i64 e.1, .str e.2]) b6 (by simp) rfl) ?_))
    refine Ala_of (made2c _ _ _ _) ?_
    have k7 : Keep0 σ6 (σ6.new ⟨2, .ex, [.int .i64 e.1, .str e.2]⟩) := Keep.new k56.ok _
    have s7 : SlAt (σ6.new ⟨2, .ex, [.int .i64 e.1, .str e.2]⟩) (.sl σ6.next 0 1 1) 2 1 [.int .i64 e.1, .str e.2] σ6.next.nat := ⟨rfl, rfl, Nat.le_refl _, fun _ => ⟨⟨2, .ex, [.int .i64 e.1, .str e.2]⟩, by rw [blk_new, if_pos rfl]; rfl, rfl, Nat.le_refl _, rfl⟩⟩
    have hn7 := k7.next; have hn6 := k56.next
    have ht37 := k7.old _ _ ht36 (fun h => h)
    have ho7 := ho6.keep k7 (fun _ h => h.elim)
    have hs7 := k7.old _ _ hs6 (fun h => h)
    have hlg7 := hlg6.keep0 k7
    have kk7 : Keep (fun z => n0 ≤ z) σ _ := kk6.trans k7.to
    generalize σ6.next = t7 at *
    generalize σ6.new ⟨2, .ex, [.int .i64 e.1, .str e.2]⟩ = σ7 at *
    refine add_entry k7.ok ht37 ho7 hnt (by omega) s7 (by omega) fun v8 _ σ8 ht38 ho8 k8 => ?_
    have hs8 := k8.old _ _ hs7 (fun q => by have q : n0 ≤ s.nat := q; omega)
    have hlg8 : LgAt σ8 G l d L rv mr := hlg7.keep k8 fun z hz q => by have := hlm z hz; omega
    have kk8 : Keep (fun z => n0 ≤ z) σ σ8 := kk7.trans k8
    have hn8 := k8.next
    have out : ∀ σ9, Keep0 σ8 σ9 → Som (vFieldAddr 5 (.ptr t3 0)) fun t61 => Som (vLoad1 t61 σ9) fun t62 => Som (vFieldAddr 5 (.ptr t3 0)) fun t63 => Som (vLoad1 t63 σ9) fun t64 => Som (vLenSl t64) fun t65 => Som (binA .sub .num t65 (.int .i64 1)) fun t66 => Som (vSlSl 2 t62 none (some t66) none) fun t67 => Ret [some t67] σ9 Q := by
      intro σ9 k9
      have ht39 := k9.old _ _ ht38 (fun h => h)
      obtain ⟨m, hen, hnm⟩ := (ho8.keep k9 (fun _ h => h.elim)).en
      refine Som_of (vField0 _ _ _) (Som_of (ld ht39 rfl) (Som_of (vField0 _ _ _) (Som_of (ld ht39 rfl) (Som_of hen.len (Som_of (bin_sub _ _ _ _) ?_)))))
      have e9 : IntKind.i64.wrap (((es ++ [e]).length : Int) - 1) = (es.length : Int) := by
        rw [List.length_append, wrap_i64_in (n := ((es.length + [e].length : Nat) : Int) - 1) (by show _ ≤ ((es.length + 1 : Nat) : Int) - 1; omega) (by show ((es.length + 1 : Nat) : Int) - 1 ≤ _; omega)]
        show ((es.length + 1 : Nat) : Int) - 1 = _
        omega
      rw [e9]
      obtain ⟨v9, c1, c2⟩ := SlAt.cutH hen (hi := es.length) (by rw [List.length_append]; omega)
      rw [ents_take, List.take_left] at c2
      refine Som_of c1 ?_
      rw [Ret_1 c2.v1]
      exact hQ v9 es m σ9 c2 (fun _ => hnm (by simp)) hr hby (by omega) ((kk8.trans k9.to).old0 ho hn0)
    refine Som_of (un_not _) ?_
    cases b with
    | false =>
      refine Sn_of rfl (GE_n rfl (Sn_of rfl (Som_of (v := .bool true) rfl ?_)))
      rw [WIf_true]
      exact out σ8 (Keep.refl kk8.ok)
    | true =>
      refine Sq_of rfl (ldN (n := 6) (xs := ({ h with log := es ++ [e] } : Hd).cells v8) ht38 (by simp [Hd.cells]) rfl) (GE_t rfl ?_)
      obtain ⟨m, hen, hnm⟩ := ho8.en
      refine right_c ht kk8.ok (h := { h with log := es ++ [e] }) hen (by show (es ++ [e]).length < _; rw [List.length_append]; show es.length + 1 < _; omega) fun b2 σ9 hb2 k9 => ?_
      refine Sq_of rfl (un_not _) (Som_of rfl ?_)
      cases b2 with
      | false => exact out σ9 k9
      | true =>
        show WIf (.bool false) _ _
        rw [WIf_false]
        refine Som_of (bin_add _ _ _ _) ?_
        rw [wrap_i64_in (n := h.base + 1 + (es.length : Int) + 1) (by omega) (by omega)]
        refine ih _ σ9 (es ++ [e]) v8 t3 (by rw [List.length_append]; show es.length + 1 + n = _; omega) (by have := k9.next; omega) (kk8.trans k9.to) (hlg8.keep0 k9) (k9.old _ _ hs8 (fun h => h)) (k9.old _ _ ht38 (fun h => h)) (ho8.keep k9 (fun _ h => h.elim)) hnt (by rw [List.length_append]; exact hel2) (hb2 rfl) (fun z hz => ?_) (by simp [e0]) (by simp [e3]) (by simp; omega)
        rcases List.mem_append.1 hz with q | q
        · exact hby z q
        · rw [List.mem_singleton.1 q]; exact heb
theorem found_c (ht : Tab tab) (h : SW σ0 G0 σ G M l d pm s a w x y .nsl) (hlg0 : y.h.log = []) (ha : a ≤ 100000) (hr : y.h.Right)
    (hQ : ∀ v es m σ', EnAt σ' v es m → (es ≠ [] → σ.next.nat ≤ m) → Hd.Right { y.h with log := es } → (∀ e ∈ es, Bytes e.2) → es.length ≤ 3200000 + a → Keep0 σ σ' → Q v σ') : WF tab 63 [.ptr s 0] σ Q := by
  refine f63_wf ht.t63 ?_
  unfold f63
  have k1 : Keep0 σ (σ.bumpT 16) := Keep.bump h.si.ok 16
  have h1 := h.k0 k1
  generalize σ.bumpT 16 = σ1 at *
  have hb0 := hr.b0
  have hb1 : y.h.base ≤ 1099511627776 := by have := hr.b1; omega
  refine Som_of rfl (Som_of (vField0 _ _ _) (Som_of (ld h1.sb.blk rfl) (Som_of rfl (Som_of (vField0 _ _ _) (Som_of (vField0 _ _ _) (Som_of (ld h1.sb.blk rfl) (Som_of rfl (Som_of (vField0 _ _ _) (Som_of (vField0 _ _ _) (Som_of (ld h1.sb.blk rfl) ?_))))))))))
  obtain ⟨L, D, rv, mr, hwl, hst, hd⟩ := h1.lw
  refine stays_c ht h1.si.ok hwl.lg hst hb0 (by omega) fun b σ2 hfi k2 => ?_
  have h2 := h1.k0 k2
  have k02 := k1.trans k2
  refine Som_of (un_not _) ?_
  have hr0 : Hd.Right { y.h with log := [] } := by rw [show ({ y.h with log := [] } : Hd) = y.h from by cases hy : y.h; simp [hy] at hlg0; simp [hlg0]]; exact hr
  cases b with
  | false =>
    rw [show (!false) = true from rfl, WIf_true, Ret_1 rfl]
    exact hQ .nsl [] 0 σ2 (SlAt.nil σ2 2 0) (fun h => absurd rfl h) hr0 (fun e he => by cases he) (Nat.zero_le _) k02
  | true =>
    rw [show (!true) = false from rfl, WIf_false]
    refine Som_of rfl (Som_of (vField0 _ _ _) (Som_of (ldN (n := 6) (xs := y.h.cells .nsl) h2.sb.blk (by simp [Sv.cells]) rfl) ?_))
    obtain ⟨k3, b3, n3⟩ := boxC k2.ok zeroH
    refine Ala_of (show aAllocV zeroH = some (⟨0, .ex, zeroH⟩, fun p => .ptr p 0) from rfl) ?_
    have h3 := h2.k0 k3
    have hwl3 := (hwl.keep0 k2).keep0 k3
    have hslt : s.nat < σ2.next.nat := h2.si.ok.lt h2.sb.blk
    have hlm : ∀ z, lM l mr z → z < σ2.next.nat := fun z hz => by
      have hg := (hwl.keep0 k2).lg
      rcases hz with q | q
      · rw [q]; exact hg.gl _ hg.g1
      · rw [q]; exact hg.gl _ hg.g2
    have hn02 := k02.next
    generalize ht3 : σ2.next = t3 at *
    have hq3 : σ2.next.nat = t3.nat := by rw [ht3]
    generalize σ2.new ⟨0, .ex, zeroH⟩ = σ3 at *
    refine Eff_of (storeN_of (xs := y.h.cells .nsl) b3 rfl (by omega) (by simp)) ?_
    have e2 : (zeroH.take 0 ++ y.h.cells .nsl ++ zeroH.drop (0 + 6)) = ({ y.h with log := [] } : Hd).cells .nsl := rfl
    rw [e2]
    have k4 : Keep0 σ2 (σ3.upd t3 ⟨0, .ex, ({ y.h with log := [] } : Hd).cells .nsl⟩) := k3.then k2.ok (Keep.upd k3.ok b3 (c := ⟨0, .ex, ({ y.h with log := [] } : Hd).cells .nsl⟩) rfl) fun z hz q => by have q : z = t3.nat := q; rw [ht3] at hz; omega
    have b4 : (σ3.upd t3 ⟨0, .ex, ({ y.h with log := [] } : Hd).cells .nsl⟩).blk t3 = some ⟨0, .ex, ({ y.h with log := [] } : Hd).cells .nsl⟩ := blk_upd_same _ _
    have n4 : (σ3.upd t3 ⟨0, .ex, ({ y.h with log := [] } : Hd).cells .nsl⟩).next = σ3.next := rfl
    generalize σ3.upd t3 ⟨0, .ex, ({ y.h with log := [] } : Hd).cells .nsl⟩ = σ4 at *
    have h4 := h2.k0 k4
    refine Som_of (vField0 _ _ _) (Som_of (ld b4 rfl) (Som_of (bin_add _ _ _ _) ?_))
    rw [wrap_i64_in (n := y.h.base + 1) (by omega) (by omega)]
    exact found_loop ht hst hlm hslt (ss := y.cells pm l d .nsl) rfl (h := y.h) ha hb0 hb1 (hfi rfl) h.si.ok hn02 (fun v es m σ' a1 a2 a3 a4 a5 a6 => hQ v es m σ' a1 (fun hne => by have := a2 hne; omega) a3 a4 a5 a6) (L.recs.length + 1) _ σ4 [] .nsl t3 (by simp) (by rw [n4]; omega) (k02.trans k4).to ((hwl.keep0 k2).keep0 k4).lg h4.sb.blk b4 (.inl ⟨rfl, rfl⟩) (Nat.le_refl _) (Nat.zero_le _) hr0 (fun e he => by cases he) (by simp) (by simp) (by simp)
end
end Go.Am
namespace Go.Am
section
variable {tab : Nat → Option PFn} {σ σ' σ0 : S} {Q : AVal → S → Prop} {G0 G G' M M' : Nat → Prop} {l d pm s : Pos} {a w : Nat} {x x' : Me} {y y' : Sv} {lv lv' : AVal}
theorem mterm_c (ht : Tab tab) (h : Mine σ G M pm (x.cells d)) (hQ : Q (.int .i64 x.term) σ) : WF tab 59 [.ptr pm 0] σ Q := by
  refine f59_wf ht.t59 ?_
  unfold f59
  refine Som_of rfl (Som_of (vField0 _ _ _) (Som_of (ld h.blk rfl) ?_))
  rw [Ret_1 rfl]; exact hQ
theorem mvote_c (ht : Tab tab) (h : Mine σ G M pm (x.cells d)) (hQ : Q (.int .i64 x.vote) σ) : WF tab 60 [.ptr pm 0] σ Q := by
  refine f60_wf ht.t60 ?_
  unfold f60
  refine Som_of rfl (Som_of (vField0 _ _ _) (Som_of (ld h.blk rfl) ?_))
  rw [Ret_1 rfl]; exact hQ
structure Sv.Ok (y : Sv) (n : Nat) : Prop where
  r : y.h.Right
  sb : Bytes y.h.snap
  eb : ∀ e ∈ y.h.log, Bytes e.2
  n : y.h.log.length ≤ n
  f : y.file = 4 ∨ y.file = 5
  a0 : 0 ≤ y.age
  a1 : y.age ≤ 2251799813685248
theorem open_last (ht : Tab tab) (ho0 : Ok σ0) (h : SW σ0 G0 σ G M l d pm s a w x y .nsl) (hy : Sv.Ok y 0) (ha : a ≤ 10) (hw : w ≤ 1000) (hN : ∀ e σ', e ≠ 0 → Q (.tup [.nptr, .int .i64 e]) σ')
    (hS : ∀ σ' G' M' a' w' y' lv', SW σ0 G0 σ' G' M' l d pm s a' w' x y' lv' → Sv.Ok y' 3300000 → y'.dead = y.dead → a' ≤ 20 → w' ≤ 1100 → Q (.tup [.ptr s 0, .int .i64 0]) σ') (E : En) (e0 : E 0 = .ptr d 0) (e7 : E 7 = .ptr s 0) : f29.J3 (WF tab) Q E σ := by
  refine f29.p3_of ?_
  unfold f29.p3
  rw [e0, e7]
  have hl0 : y.h.log = [] := List.eq_nil_of_length_eq_zero (by have := hy.n; omega)
  refine lwdsync_c ht h.si.ok h.lw fun e σ1 M1 h1 r1 => ?_
  have s1 := h.step ho0 h1 r1
  refine Som_of (bin_neq _ _ _ _) (WIf_dec (fun _ => ?_) (fun _ => ?_))
  · rw [Ret_2 rfl rfl]; exact hN _ _ (by omega)
  refine found_c ht s1 hl0 (by omega) hy.r fun v es m σ2 hen hm hr heb hel k2 => ?_
  have s2 := s1.k0 k2
  have hes : EsAt σ2 G v es := EsAt.of hen fun hne hg => by have := hm hne; have := s1.lw.gl m hg; omega
  refine Som_of rfl (Som_of (vField0 _ _ _) (Som_of (vField0 _ _ _) ?_))
  refine Eff_of (store1_of s2.sb.blk (by simp [Sv.cells]) hen.cells) ?_
  have e1 : (y.cells pm l d .nsl).set (0 + 5 + 5) v = ({ y with h := { y.h with log := es } } : Sv).cells pm l d v := rfl
  rw [e1]
  obtain ⟨s3, k3⟩ := s2.setS (y' := { y with h := { y.h with log := es } }) (lv' := v) ho0 hes
  generalize σ2.upd s ⟨0, .ex, ({ y with h := { y.h with log := es } } : Sv).cells pm l d v⟩ = σ3 at *
  have hb1 := hr.b1
  refine even_c ht ho0 s3 hr.b0 (by show y.h.base ≤ _; have : y.h.base ≤ 1099511627776 - (es.length : Int) := hb1; omega) (by show es.length ≤ _; omega) (by omega) (by omega) fun e => ?_
  intro σ4 G4 M4 s4
  refine Som_of (bin_eql _ _ _ _) (WIf_dec (fun he => ?_) (fun _ => ?_))
  · rw [Ret_2 rfl rfl]; exact hN _ _ (by omega)
  · rw [Ret_2 rfl rfl]
    exact hS σ4 G4 M4 _ _ _ _ s4 ⟨hr, hy.sb, heb, by show es.length ≤ _; omega, hy.f, hy.a0, hy.a1⟩ rfl (by omega) (by omega)
theorem open_cuts (ht : Tab tab) (ho0 : Ok σ0) (hy : Sv.Ok y 0) (ha : a ≤ 10) (hN : ∀ e σ', e ≠ 0 → Q (.tup [.nptr, .int .i64 e]) σ')
    (hS : ∀ σ' G' M' a' w' y' lv', SW σ0 G0 σ' G' M' l d pm s a' w' x y' lv' → Sv.Ok y' 3300000 → y'.dead = y.dead → a' ≤ 20 → w' ≤ 1100 → Q (.tup [.ptr s 0, .int .i64 0]) σ') (n : Nat) :
    ∀ (E : En) (σ : S) (G M : Nat → Prop) (i w : Nat), SW σ0 G0 σ G M l d pm s a w x y .nsl → i + n = 8 → w + n ≤ 1000 → E 0 = .ptr d 0 → E 7 = .ptr s 0 → E 11 = .int .i64 (i : Int) → f29.L2 (WF tab) Q E σ := by
  induction n with
  | zero =>
    intro E σ G M i w h hi hw e0 e7 e11
    refine f29.p2_of ?_
    unfold f29.p2
    rw [e11]
    refine Som_of (bin_leq _ _ _ _) (WIf_f (by omega) ?_)
    exact open_last ht ho0 h hy ha (by omega) hN hS _ (by simp [e0]) (by simp [e7])
  | succ n ih =>
    intro E σ G M i w h hi hw e0 e7 e11
    refine f29.p2_of ?_
    unfold f29.p2
    rw [e0, e7, e11]
    refine Som_of (bin_leq _ _ _ _) (WIf_t (by omega) ?_)
    refine Som_of rfl (Som_of (vField0 _ _ _) (Som_of (ld h.sb.blk rfl) (Som_of (bin_neq _ _ _ _) ?_)))
    refine or5 (fun _ => rfl) (fun _ => rfl) (fun _ => vField0 _ _ _) (fun _ => ld h.sb.blk rfl) (fun _ => bin_eql _ _ _ _) fun _ _ _ _ _ => ?_
    have next : ∀ (E' : En) (σ' : S) (G' M' : Nat → Prop), SW σ0 G0 σ' G' M' l d pm s a (w + 1) x y .nsl → E' 0 = .ptr d 0 → E' 7 = .ptr s 0 → E' 11 = .int .i64 ((i : Int) + 1) → f29.L2 (WF tab) Q E' σ' := fun E' σ' G' M' h' a0 a7 a11 =>
      ih E' σ' G' M' (i + 1) (w + 1) h' (by omega) (by omega) a0 a7 (by rw [a11]; rfl)
    generalize (decide ((i : Int) ≠ y.file) || decide (y.age = 0)) = c
    cases c with
    | false =>
      refine Sn_of rfl (Sn_of rfl (GE_n rfl (Sn_of rfl (Som_of (v := .bool false) rfl (Sn_of rfl (Sn_of rfl (GE_n rfl (Sn_of rfl (Som_of (v := .bool false) rfl ?_)))))))))
      rw [WIf_false]
      refine Som_of (bin_add _ _ _ _) ?_
      rw [wrap_i64_in (n := (i : Int) + 1) (by omega) (by omega)]
      exact next _ σ G M (h.mono (Nat.le_refl a) (Nat.le_succ w)) (by simp [e0]) (by simp [e7]) (by simp)
    | true =>
      refine Sq_of rfl rfl (Sq_of rfl rfl (GE_t rfl ?_))
      refine lwdsize_c ht h.lw (by omega) fun k => ?_
      refine Sq_of rfl (bin_gtr _ _ _ _) (Som_of rfl ?_)
      by_cases hk : (0 : Int) < (k : Int)
      · rw [decide_eq_true hk]
        refine Sq_of rfl rfl (Sq_of rfl rfl (GE_t rfl ?_))
        refine lwdcut_c ht h.si.ok h.lw (by omega) (by omega) fun e σ1 G1 M1 h1 r1 => ?_
        refine Sq_of rfl (bin_neq _ _ _ _) (Som_of rfl (WIf_dec (fun _ => ?_) (fun _ => ?_)))
        · rw [Ret_2 rfl rfl]; exact hN _ _ (by omega)
        · refine Som_of (bin_add _ _ _ _) ?_
          rw [wrap_i64_in (n := (i : Int) + 1) (by omega) (by omega)]
          exact next _ σ1 G1 M1 (h.step ho0 h1 r1) (by simp [e0]) (by simp [e7]) (by simp)
      · rw [decide_eq_false hk]
        refine Sn_of rfl (Sn_of rfl (GE_n rfl (Sn_of rfl (Som_of (v := .bool false) rfl ?_))))
        rw [WIf_false]
        refine Som_of (bin_add _ _ _ _) ?_
        rw [wrap_i64_in (n := (i : Int) + 1) (by omega) (by omega)]
        exact next _ σ G M (h.mono (Nat.le_refl a) (Nat.le_succ w)) (by simp [e0]) (by simp [e7]) (by simp)
theorem open_snaps (ht : Tab tab) (ho0 : Ok σ0) (ha : a ≤ 10) (hw : w ≤ 900) (hN : ∀ e σ', e ≠ 0 → Q (.tup [.nptr, .int .i64 e]) σ')
    (hS : ∀ σ' G' M' a' w' y' lv', SW σ0 G0 σ' G' M' l d pm s a' w' x y' lv' → Sv.Ok y' 3300000 → y'.dead = 0 → a' ≤ 20 → w' ≤ 1100 → Q (.tup [.ptr s 0, .int .i64 0]) σ') (n : Nat) :
    ∀ (E : En) (σ : S) (G M : Nat → Prop) (i : Nat) (y : Sv), SW σ0 G0 σ G M l d pm s a w x y .nsl → Sv.Ok y 0 → y.dead = 0 → 4 ≤ i → i + n = 6 → E 0 = .ptr d 0 → E 4 = .ptr pm 0 → E 7 = .ptr s 0 → E 8 = .int .i64 (i : Int) → f29.L0 (WF tab) Q E σ := by
  induction n with
  | zero =>
    intro E σ G M i y h hy hd h4 hi e0 e4 e7 e8
    refine f29.p0_of ?_
    unfold f29.p0
    rw [e8]
    refine Som_of (bin_lss _ _ _ _) (WIf_f (by omega) ?_)
    refine f29.p1_of ?_
    unfold f29.p1
    exact open_cuts ht ho0 hy ha hN (fun σ' G' M' a' w' y' lv' q1 q2 q3 q4 q5 => hS σ' G' M' a' w' y' lv' q1 q2 (by rw [q3, hd]) q4 q5) 4 _ σ G M 4 w h rfl (by omega) (by simp [e0]) (by simp [e7]) (by simp)
  | succ n ih =>
    intro E σ G M i y h hy hd h4 hi e0 e4 e7 e8
    refine f29.p0_of ?_
    unfold f29.p0
    rw [e0, e4, e7, e8]
    refine Som_of (bin_lss _ _ _ _) (WIf_t (by omega) ?_)
    refine snapshot_c ht h.si.ok h.lw (by omega) fun z age σ1 hz hzb hage k1 => ?_
    refine Som_of rfl (Som_of rfl ?_)
    have h1 := h.k0 k1
    obtain ⟨k2, b2, n2⟩ := boxC k1.ok zeroH
    refine Ala_of (show aAllocV zeroH = some (⟨0, .ex, zeroH⟩, fun p => .ptr p 0) from rfl) ?_
    have hn1 := k1.next
    have slt := h1.si.ok.lt h1.sb.blk
    generalize ht9 : σ1.next = t9 at *
    generalize σ1.new ⟨0, .ex, zeroH⟩ = σ2 at *
    refine Eff_of (storeN_of (xs := z.cells .nsl) b2 rfl (by omega) (by simp)) ?_
    have q1 : (zeroH.take 0 ++ z.cells .nsl ++ zeroH.drop (0 + 6)) = z.cells .nsl := rfl
    rw [q1]
    have k3 : Keep0 σ1 (σ2.upd t9 ⟨0, .ex, z.cells .nsl⟩) := k2.then k1.ok (Keep.upd k2.ok b2 (c := ⟨0, .ex, z.cells .nsl⟩) rfl) fun u hu q => by have q : u = t9.nat := q; rw [ht9] at hu; omega
    have b3 : (σ2.upd t9 ⟨0, .ex, z.cells .nsl⟩).blk t9 = some ⟨0, .ex, z.cells .nsl⟩ := blk_upd_same _ _
    generalize σ2.upd t9 ⟨0, .ex, z.cells .nsl⟩ = σ3 at *
    have h3 := h1.k0 k3
    refine mterm_c ht h3.mb (mvote_c ht h3.mb ?_)
    refine Som_of (vField0 _ _ _) (Eff_of (store1_of b3 (by simp [Hd.cells]) rfl) (Som_of (vField0 _ _ _) ?_))
    have k4 : Keep (fun u => u = t9.nat) σ3 (σ3.upd t9 ⟨0, .ex, ({ z with term := x.term } : Hd).cells .nsl⟩) := Keep.upd k3.ok b3 rfl
    have b4 : (σ3.upd t9 ⟨0, .ex, ({ z with term := x.term } : Hd).cells .nsl⟩).blk t9 = some ⟨0, .ex, ({ z with term := x.term } : Hd).cells .nsl⟩ := blk_upd_same _ _
    have q2 : σ3.upd t9 ⟨0, .ex, (z.cells .nsl).set (0 + 0) (.int .i64 x.term)⟩ = σ3.upd t9 ⟨0, .ex, ({ z with term := x.term } : Hd).cells .nsl⟩ := rfl
    rw [q2]
    refine Eff_of (store1_of b4 (by simp [Hd.cells]) rfl) ?_
    generalize σ3.upd t9 ⟨0, .ex, ({ z with term := x.term } : Hd).cells .nsl⟩ = σ4 at *
    have k5 : Keep (fun u => u = t9.nat) σ4 (σ4.upd t9 ⟨0, .ex, ({ z with term := x.term, vote := x.vote } : Hd).cells .nsl⟩) := Keep.upd k4.ok b4 rfl
    have b5 : (σ4.upd t9 ⟨0, .ex, ({ z with term := x.term, vote := x.vote } : Hd).cells .nsl⟩).blk t9 = some ⟨0, .ex, ({ z with term := x.term, vote := x.vote } : Hd).cells .nsl⟩ := blk_upd_same _ _
    have q3 : σ4.upd t9 ⟨0, .ex, (({ z with term := x.term } : Hd).cells .nsl).set (0 + 1) (.int .i64 x.vote)⟩ = σ4.upd t9 ⟨0, .ex, ({ z with term := x.term, vote := x.vote } : Hd).cells .nsl⟩ := rfl
    rw [q3]
    have k15 : Keep0 σ1 (σ4.upd t9 ⟨0, .ex, ({ z with term := x.term, vote := x.vote } : Hd).cells .nsl⟩) := (k3.then k1.ok k4 fun u hu q => by rw [ht9] at hu; omega).then k1.ok k5 fun u hu q => by rw [ht9] at hu; omega
    generalize σ4.upd t9 ⟨0, .ex, ({ z with term := x.term, vote := x.vote } : Hd).cells .nsl⟩ = σ5 at *
    generalize hz' : ({ z with term := x.term, vote := x.vote } : Hd) = z' at *
    have hzl : z'.log = [] := by rw [← hz']; exact hz
    have hzs : Bytes z'.snap := by rw [← hz']; exact hzb
    have h5 := h1.k0 k15
    have ew : IntKind.i64.wrap ((i : Int) + 1) = ((i + 1 : Nat) : Int) := by
      rw [wrap_i64_in (n := (i : Int) + 1) (by omega) (by omega)]; omega
    refine Som_of rfl (Som_of (vField0 _ _ _) (Som_of (ld h5.sb.blk rfl) (Som_of (bin_gtr _ _ _ _) ?_)))
    refine andd3 (fun _ => vField0 _ _ _) (fun _ => ld b5 rfl) (fun _ => bin_gtr _ _ _ _) fun _ _ _ => ?_
    by_cases hc : (decide (y.age < age) && decide (0 < z'.base)) = true
    · rw [hc]
      have hga : y.age < age := by
        have := (Bool.and_eq_true _ _ ▸ hc : _ ∧ _).1
        exact of_decide_eq_true this
      refine Sq_of rfl (ldN (n := 6) (xs := z'.cells .nsl) b5 (by simp [Hd.cells]) rfl) (GE_t rfl ?_)
      refine right_c ht h5.si.ok (h := z') (lv := .nsl) (ml := 0) (by rw [hzl]; exact SlAt.nil σ5 2 0) (by rw [hzl]; simp) fun b σ6 hb k6 => ?_
      have h6 := h5.k0 k6
      have b6 := k6.old _ _ b5 (fun h => h)
      refine Som_of rfl ?_
      cases b with
      | false =>
        rw [WIf_false]
        refine Som_of (bin_add _ _ _ _) ?_
        rw [ew]
        exact ih _ σ6 G M (i + 1) y h6 hy hd (by omega) (by omega) (by simp [e0]) (by simp [e4]) (by simp [e7]) (by simp)
      | true =>
        rw [WIf_true]
        have hr := hb rfl
        refine Som_of (ldN (n := 6) (xs := z'.cells .nsl) b6 (by simp [Hd.cells]) rfl) (Som_of rfl (Som_of (vField0 _ _ _) ?_))
        refine Eff_of (storeN_of (xs := z'.cells .nsl) h6.sb.blk rfl (by omega) (by simp [Sv.cells])) ?_
        have q4 : (y.cells pm l d .nsl).take (0 + 5) ++ z'.cells .nsl ++ (y.cells pm l d .nsl).drop (0 + 5 + 6) = ({ y with h := z' } : Sv).cells pm l d .nsl := rfl
        rw [q4]
        obtain ⟨h7, k7⟩ := h6.setS (y' := { y with h := z' }) (lv' := .nsl) ho0 (by show EsAt σ6 G .nsl z'.log; rw [hzl]; exact EsAt.of (SlAt.nil σ6 2 0) fun h => absurd rfl h)
        generalize σ6.upd s ⟨0, .ex, ({ y with h := z' } : Sv).cells pm l d .nsl⟩ = σ7 at *
        refine Som_of rfl (Som_of (vField0 _ _ _) (Eff_of (store1_of h7.sb.blk (by simp [Sv.cells]) rfl) ?_))
        have q5 : (({ y with h := z' } : Sv).cells pm l d .nsl).set (0 + 3) (.int .i64 (i : Int)) = ({ y with h := z', file := (i : Int) } : Sv).cells pm l d .nsl := rfl
        rw [q5]
        obtain ⟨h8, k8⟩ := h7.setS (y' := { y with h := z', file := (i : Int) }) (lv' := .nsl) ho0 h7.en
        generalize σ7.upd s ⟨0, .ex, ({ y with h := z', file := (i : Int) } : Sv).cells pm l d .nsl⟩ = σ8 at *
        refine Som_of rfl (Som_of (vField0 _ _ _) (Eff_of (store1_of h8.sb.blk (by simp [Sv.cells]) rfl) ?_))
        have q6 : (({ y with h := z', file := (i : Int) } : Sv).cells pm l d .nsl).set (0 + 4) (.int .i64 age) = ({ y with h := z', file := (i : Int), age := age } : Sv).cells pm l d .nsl := rfl
        rw [q6]
        obtain ⟨h9, k9⟩ := h8.setS (y' := { y with h := z', file := (i : Int), age := age }) (lv' := .nsl) ho0 h8.en
        generalize σ8.upd s ⟨0, .ex, ({ y with h := z', file := (i : Int), age := age } : Sv).cells pm l d .nsl⟩ = σ9 at *
        refine Som_of (bin_add _ _ _ _) ?_
        rw [ew]
        have hag := hage (by have := hy.a0; omega)
        exact ih _ σ9 G M (i + 1) _ h9 ⟨hr, hzs, fun e he => (by have he : e ∈ z'.log := he; rw [hzl] at he; cases he), by show z'.log.length ≤ 0; rw [hzl]; exact Nat.le_refl 0, by show (i : Int) = 4 ∨ (i : Int) = 5; omega, by show 0 ≤ age; omega, by show age ≤ _; omega⟩ hd (by omega) (by omega) (by simp [e0]) (by simp [e4]) (by simp [e7]) (by simp)
    · rw [Bool.not_eq_true] at hc
      rw [hc]
      refine Sn_of rfl (GE_n rfl (Som_of (v := .bool false) rfl ?_))
      rw [WIf_false]
      refine Som_of (bin_add _ _ _ _) ?_
      rw [ew]
      exact ih _ σ5 G M (i + 1) y h5 hy hd (by omega) (by omega) (by simp [e0]) (by simp [e4]) (by simp [e7]) (by simp)
theorem sopen_c (ht : Tab tab) (ho : Ok σ) (h : DW σ G M d w) (hgn : ∀ x, G x → σ0.next.nat ≤ x) (hk0 : Keep0 σ0 σ) (ho0 : Ok σ0) (hw : w ≤ 100) (hN : ∀ e σ', e ≠ 0 → Q (.tup [.nptr, .int .i64 e]) σ')
    (hS : ∀ s l pm x σ' G' M' a' w' y' lv', SW σ0 (fun _ => False) σ' G' M' l d pm s a' w' x y' lv' → Sv.Ok y' 3300000 → Me.Ok x 0 → y'.dead = 0 → a' ≤ 20 → w' ≤ 1100 → Q (.tup [.ptr s 0, .int .i64 0]) σ') : WF tab 29 [.ptr d 0] σ Q := by
  refine f29_wf ht.t29 ?_
  unfold f29
  refine mopen_c ht ho h (by omega) (fun e σ1 he => ?_) (fun pm x σ1 G1 M1 hx hpm h1 r1 m1 => ?_)
  · refine Som_of rfl (Som_of rfl (Som_of (bin_neq _ _ _ _) (WIf_t he ?_)))
    rw [Ret_2 rfl rfl]; exact hN e σ1 he
  refine Som_of rfl (Som_of rfl (Som_of (bin_neq _ _ _ _) (WIf_f (by omega) ?_)))
  refine lwopen_c ht r1.k.ok h1 (by omega) (fun e σ2 he => ?_) (fun l σ2 G2 M2 h2 r2 => ?_)
  · refine Som_of rfl (Som_of rfl (Som_of (bin_neq _ _ _ _) (WIf_t he ?_)))
    rw [Ret_2 rfl rfl]; exact hN e σ2 he
  refine Som_of rfl (Som_of rfl (Som_of (bin_neq _ _ _ _) (WIf_f (by omega) ?_)))
  have m2 := m1.step r1.k.ok r2
  have r12 := r1.trans ho r2
  have hMG := h.lt
  have hmG : ∀ z, M z → G z := by
    obtain ⟨D, pf, ps, fv, sv, wv, wc, mw, h, _, rfl⟩ := h
    exact dM_G h
  have k2 : Keep0 σ0 σ2 := hk0.then ho0 r12.k fun z hz hm => by have := hgn z (hmG z hm); omega
  have hn0 := hk0.next
  have gn2 : ∀ z, G2 z → σ0.next.nat ≤ z := fun z hz => by
    by_cases hlt : z < σ.next.nat
    · exact hgn z (r12.g.2 z hlt hz)
    · omega
  refine Som_of (show vBuild [AVal.nptr, .nptr, .nptr, .int .i64 0, .int .i64 0, .int .i64 0, .int .i64 0, .int .i64 0, .int .i64 0, .str [], .nsl, .int .i64 0] [(0, 1, .ptr pm 0), (1, 1, .ptr l 0), (2, 1, .ptr d 0), (3, 1, .int .i64 5)] = some (.agg ((⟨5, 0, ⟨0, 0, 0, 0, [], []⟩, 0⟩ : Sv).cells pm l d .nsl)) from rfl) ?_
  obtain ⟨k3, b3, n3⟩ := boxC k2.ok ((⟨5, 0, ⟨0, 0, 0, 0, [], []⟩, 0⟩ : Sv).cells pm l d .nsl)
  refine Ala_of (show aBoxV (.agg ((⟨5, 0, ⟨0, 0, 0, 0, [], []⟩, 0⟩ : Sv).cells pm l d .nsl)) = some (⟨0, .ex, (⟨5, 0, ⟨0, 0, 0, 0, [], []⟩, 0⟩ : Sv).cells pm l d .nsl⟩, fun p => .ptr p 0) from rfl) ?_
  have h3 := h2.plus k2.ok k3 (p := σ2.next) (Nat.le_refl _) (by omega)
  have mb3 : Mine _ (Plus G2 σ2.next) M2 pm (x.cells d) := m2.plus k3
  have sb3 : Mine _ (Plus G2 σ2.next) M2 σ2.next ((⟨5, 0, ⟨0, 0, 0, 0, [], []⟩, 0⟩ : Sv).cells pm l d .nsl) := Mine.new h2.lt (Nat.le_refl _) b3
  have pmlt := k2.ok.lt m2.blk
  have hn2 := k2.next
  have s3 : SW σ0 (fun _ => False) _ (Plus G2 σ2.next) M2 l d pm σ2.next 1 4 x ⟨5, 0, ⟨0, 0, 0, 0, [], []⟩, 0⟩ .nsl :=
    ⟨k2.trans k3, fun _ h => h.elim, fun z hlt hz => (by rcases hz with q | q; have := gn2 z q; omega; omega), h3, mb3, sb3, fun e => by rw [← e] at pmlt; omega, EsAt.of (SlAt.nil _ 2 0) fun h => absurd rfl h⟩
  generalize σ2.next = s at *
  generalize σ2.new ⟨0, .ex, (⟨5, 0, ⟨0, 0, 0, 0, [], []⟩, 0⟩ : Sv).cells pm l d .nsl⟩ = σ3 at *
  refine mterm_c ht s3.mb (mvote_c ht s3.mb ?_)
  refine Som_of (show vBuild zeroH [(0, 1, .int .i64 x.term), (1, 1, .int .i64 x.vote)] = some (.agg ((⟨x.term, x.vote, 0, 0, [], []⟩ : Hd).cells .nsl)) from rfl) (Som_of rfl (Som_of (vField0 _ _ _) ?_))
  refine Eff_of (storeN_of (xs := (⟨x.term, x.vote, 0, 0, [], []⟩ : Hd).cells .nsl) s3.sb.blk rfl (by omega) (by simp [Sv.cells])) ?_
  have q4 : ((⟨5, 0, ⟨0, 0, 0, 0, [], []⟩, 0⟩ : Sv).cells pm l d .nsl).take (0 + 5) ++ (⟨x.term, x.vote, 0, 0, [], []⟩ : Hd).cells .nsl ++ ((⟨5, 0, ⟨0, 0, 0, 0, [], []⟩, 0⟩ : Sv).cells pm l d .nsl).drop (0 + 5 + 6) = (⟨5, 0, ⟨x.term, x.vote, 0, 0, [], []⟩, 0⟩ : Sv).cells pm l d .nsl := rfl
  rw [q4]
  obtain ⟨s4, k4⟩ := s3.setS (y' := ⟨5, 0, ⟨x.term, x.vote, 0, 0, [], []⟩, 0⟩) (lv' := .nsl) ho0 (EsAt.of (SlAt.nil σ3 2 0) fun h => absurd rfl h)
  have ht0 := hx.t0; have ht1 := hx.t1; have hv0 := hx.v0; have hv1 := hx.v1
  exact open_snaps ht ho0 (by omega) (by omega) hN (fun σ' G' M' a' w' y' lv' a1 a2 a3 a4 a5 => hS s l pm x σ' G' M' a' w' y' lv' a1 a2 hx a3 a4 a5) 2 _ _ _ _ 4 _ s4
    ⟨⟨ht0, ht1, hv0, hv1, by show (0 : Int) ≤ 0; omega, by show (0 : Int) ≤ 1099511627776 - ((0 : Nat) : Int); omega, by show (0 : Int) ≤ 0; omega, ht0, Nat.zero_le _, Iff.rfl, fun _ => rfl, trivial⟩, Bytes.nil, fun e he => (by cases he), Nat.le_refl 0, .inr rfl, by show (0 : Int) ≤ 0; omega, by show (0 : Int) ≤ _; omega⟩ rfl (by omega) (by omega) (by simp) (by simp) (by simp) (by simp)
end
end Go.Am
namespace Go.Am
section
variable {tab : Nat → Option PFn} {σ σ' σ0 : S} {Q : AVal → S → Prop} {G0 G G' M M' : Nat → Prop} {l d pm s : Pos} {a w : Nat} {x x' : Me} {y y' : Sv} {lv lv' : AVal}
theorem putF_nil_by {p : List Nat} (h : Bytes p) : Bytes (putF [] p) := by
  unfold putF frameOf
  split
  · exact Bytes.nil
  · exact Bytes.nil.app ((le4_bytes _).app ((le4_bytes _).app h))
theorem putF_nil_le {p : List Nat} (h : p.length ≤ 1000000000) : (putF [] p).length ≤ 2000000000 := by
  unfold putF frameOf
  split
  · rw [List.length_nil]; omega
  · simp only [List.length_append, List.length_nil, le4_len]; omega
theorem set0 (ht : Tab tab) (ho0 : Ok σ0) (h : SW σ0 G0 σ G M l d pm s a w x y lv) (hx : Me.Ok x 0) {t v : Int} (t0 : 0 ≤ t) (t1 : t ≤ 1099511627776) (v0 : -1 ≤ v) (v1 : v < 7) {f : Nat} (hf : f < 2) (hw : w + 20 < 1000000000)
    (hN : ∀ e, e ≠ 0 → Back σ0 G0 l d pm s a (w + 1) x y lv (Q (.int .i64 e))) (hS : ∀ x', Me.Ok x' 1 → Back σ0 G0 l d pm s a (w + 1) x' y lv (Q (.int .i64 0))) (E : En) (e0 : E 0 = .ptr pm 0) (e1 : E 1 = .int .i64 t) (e2 : E 2 = .int .i64 v) (e7 : E 7 = .int .i64 (f : Int)) : f93.J0 (WF tab) Q E σ := by
  refine f93.p0_of ?_
  unfold f93.p0
  rw [e0, e1, e2, e7]
  have ha0 := hx.a0; have ha1 := hx.a1
  refine Som_of rfl (Som_of (vField0 _ _ _) (Som_of (ld h.mb.blk rfl) (Som_of (bin_add _ _ _ _) ?_)))
  rw [wrap_i64_in (n := x.age + 1) (by omega) (by omega)]
  refine Num_v ht (by omega) (by omega) h.si.ok (BySl.nil σ) (by simp) fun v1' σ1 m1 g1 k1 l1 l1' => ?_
  have ln1 := zz_len (n := x.age + 1) (by omega)
  refine Num_v ht (by omega) (by omega) k1.ok g1.sl (by simp; omega) fun v2 σ2 m2 g2 k2 l2 l2' => ?_
  have ln2 := zz_len (n := t) (by omega)
  refine Num_v ht (by omega) (by omega) k2.ok g2.sl (by simp; omega) fun v3 σ3 m3 g3 k3 l3 l3' => ?_
  have ln3 := zz_len (n := v) (by omega)
  have hb3 : Bytes ([] ++ enc (zz (x.age + 1)) ++ enc (zz t) ++ enc (zz v)) := ((Bytes.nil.app (enc_bytes _)).app (enc_bytes _)).app (enc_bytes _)
  have hl3 : ([] ++ enc (zz (x.age + 1)) ++ enc (zz t) ++ enc (zz v)).length ≤ 30 := by simp; omega
  generalize [] ++ enc (zz (x.age + 1)) ++ enc (zz t) ++ enc (zz v) = p at *
  refine Put_c ht k3.ok (BySl.nil σ3) g3.sl hb3 (by simp; omega) fun v4 σ4 m4 g4 k4 l4 l4' => ?_
  have k04 := ((k1.trans k2).trans k3).trans k4
  have h4 := h.k0 k04
  have n0 := ((k1.trans k2).trans k3).next
  refine Som_of rfl (Som_of (vField0 _ _ _) (Som_of (ld h4.mb.blk rfl) ?_))
  have hpl := putF_nil_le (p := p) (by omega)
  refine lwwrite_c ht h4.si.ok h4.lw (by omega) (k := f) (by omega) g4.sl (putF_nil_by hb3) (fun _ hg => by have := h.lw.gl m4 hg; omega) (by omega) fun e σ5 G5 M5 h5 r5 => ?_
  have h5' := h4.step ho0 h5 r5
  refine Som_of (bin_neq _ _ _ _) (WIf_dec (fun he => ?_) (fun he => ?_))
  · rw [Ret_1 rfl]; exact hN e he σ5 G5 M5 h5'
  refine Som_of rfl (Som_of (vField0 _ _ _) (Som_of (ld h5'.mb.blk rfl) ?_))
  refine lwdsync_c ht h5'.si.ok h5'.lw fun e σ6 M6 h6 r6 => ?_
  have h6' := h5'.step ho0 h6 r6
  refine Som_of (bin_neq _ _ _ _) (WIf_dec (fun he => ?_) (fun he => ?_))
  · rw [Ret_1 rfl]; exact hN e he σ6 G5 M6 h6'
  refine Som_of rfl (Som_of (vField0 _ _ _) (Som_of (ld h6'.mb.blk rfl) (Som_of (bin_add _ _ _ _) (Som_of rfl (Som_of (vField0 _ _ _) ?_)))))
  rw [wrap_i64_in (n := x.age + 1) (by omega) (by omega)]
  refine Eff_of (store1_of h6'.mb.blk (by simp) rfl) ?_
  obtain ⟨h7, k7⟩ := h6'.setM (x' := { x with file := (f : Int) }) ho0
  have q7 : σ6.upd pm ⟨0, .ex, (x.cells d).set (0 + 1) (.int .i64 (f : Int))⟩ = σ6.upd pm ⟨0, .ex, ({ x with file := (f : Int) } : Me).cells d⟩ := rfl
  rw [q7]
  generalize σ6.upd pm ⟨0, .ex, ({ x with file := (f : Int) } : Me).cells d⟩ = σ7 at *
  refine Som_of rfl (Som_of (vField0 _ _ _) (Eff_of (store1_of h7.mb.blk (by simp) rfl) ?_))
  obtain ⟨h8, k8⟩ := h7.setM (x' := { x with file := (f : Int), age := x.age + 1 }) ho0
  have q8 : σ7.upd pm ⟨0, .ex, (({ x with file := (f : Int) } : Me).cells d).set (0 + 2) (.int .i64 (x.age + 1))⟩ = σ7.upd pm ⟨0, .ex, ({ x with file := (f : Int), age := x.age + 1 } : Me).cells d⟩ := rfl
  rw [q8]
  generalize σ7.upd pm ⟨0, .ex, ({ x with file := (f : Int), age := x.age + 1 } : Me).cells d⟩ = σ8 at *
  refine Som_of rfl (Som_of (vField0 _ _ _) (Eff_of (store1_of h8.mb.blk (by simp) rfl) ?_))
  obtain ⟨h9, k9⟩ := h8.setM (x' := { x with file := (f : Int), age := x.age + 1, term := t }) ho0
  have q9 : σ8.upd pm ⟨0, .ex, (({ x with file := (f : Int), age := x.age + 1 } : Me).cells d).set (0 + 3) (.int .i64 t)⟩ = σ8.upd pm ⟨0, .ex, ({ x with file := (f : Int), age := x.age + 1, term := t } : Me).cells d⟩ := rfl
  rw [q9]
  generalize σ8.upd pm ⟨0, .ex, ({ x with file := (f : Int), age := x.age + 1, term := t } : Me).cells d⟩ = σ9 at *
  refine Som_of rfl (Som_of (vField0 _ _ _) (Eff_of (store1_of h9.mb.blk (by simp) rfl) ?_))
  obtain ⟨h10, k10⟩ := h9.setM (x' := { x with file := (f : Int), age := x.age + 1, term := t, vote := v }) ho0
  have q10 : σ9.upd pm ⟨0, .ex, (({ x with file := (f : Int), age := x.age + 1, term := t } : Me).cells d).set (0 + 4) (.int .i64 v)⟩ = σ9.upd pm ⟨0, .ex, ({ x with file := (f : Int), age := x.age + 1, term := t, vote := v } : Me).cells d⟩ := rfl
  rw [q10]
  rw [Ret_1 rfl]
  exact hS _ ⟨by show (f : Int) = 0 ∨ (f : Int) = 1; omega, by show 0 ≤ x.age + 1; omega, by show x.age + 1 < 1125899906842624 + ((1 : Nat) : Int); omega, t0, t1, v0, v1⟩ _ G5 M6 h10
theorem set_c (ht : Tab tab) (ho0 : Ok σ0) (h : SW σ0 G0 σ G M l d pm s a w x y lv) (hx : Me.Ok x 0) {t v : Int} (hw : w + 40 < 1000000000)
    (hN : ∀ e, e ≠ 0 → Back σ0 G0 l d pm s a (w + 2) x y lv (Q (.int .i64 e))) (hS : ∀ x', Me.Ok x' 1 → Back σ0 G0 l d pm s a (w + 2) x' y lv (Q (.int .i64 0))) : WF tab 93 [.ptr pm 0, .int .i64 t, .int .i64 v] σ Q := by
  refine f93_wf ht.t93 ?_
  unfold f93
  have k1 : Keep0 σ (σ.bumpT 12) := Keep.bump h.si.ok 12
  have h1 := h.k0 k1
  generalize σ.bumpT 12 = σ1 at *
  refine Som_of rfl (Som_of (vField0 _ _ _) (Som_of (ld h1.mb.blk rfl) (Som_of rfl (Som_of (vField0 _ _ _) (Som_of (ld h1.mb.blk rfl) ?_)))))
  refine may_c ht fun b hb => ?_
  refine Som_of (un_not _) ?_
  cases b with
  | false =>
    rw [show (!false) = true from rfl, WIf_true, Ret_1 rfl]
    exact hN 1 (by omega) σ1 G M (h1.mono (Nat.le_refl a) (by omega))
  | true =>
    rw [show (!true) = false from rfl, WIf_false]
    obtain ⟨b1, b2, b3, b4⟩ := hb rfl
    have ht0 := hx.t0
    refine Som_of rfl (Som_of (vField0 _ _ _) (Som_of (ld h1.mb.blk rfl) (Som_of (bin_sub _ _ _ _) ?_)))
    obtain ⟨f, hf, hff⟩ : ∃ f : Nat, f < 2 ∧ IntKind.i64.wrap (1 - x.file) = (f : Int) := by
      rcases hx.f with e | e
      · exact ⟨1, by omega, by rw [e]; rfl⟩
      · exact ⟨0, by omega, by rw [e]; rfl⟩
    rw [hff]
    refine Som_of rfl (Som_of (vField0 _ _ _) (Som_of (ld h1.mb.blk rfl) ?_))
    refine lwdsize_c ht h1.lw (k := f) (by omega) fun n => ?_
    refine Som_of (bin_gtr _ _ _ _) (WIf_dec (fun _ => ?_) (fun _ => ?_))
    · refine Som_of rfl (Som_of (vField0 _ _ _) (Som_of (ld h1.mb.blk rfl) ?_))
      refine lwdcut_c ht h1.si.ok h1.lw (by omega) (k := f) (by omega) fun e σ2 G2 M2 h2 r2 => ?_
      have h2' := h1.step ho0 h2 r2
      refine Som_of (bin_neq _ _ _ _) (WIf_dec (fun he => ?_) (fun _ => ?_))
      · rw [Ret_1 rfl]; exact hN e he σ2 G2 M2 (h2'.mono (Nat.le_refl a) (by omega))
      refine Som_of rfl (Som_of (vField0 _ _ _) (Som_of (ld h2'.mb.blk rfl) ?_))
      refine lwdsync_c ht h2'.si.ok h2'.lw fun e σ3 M3 h3 r3 => ?_
      have h3' := h2'.step ho0 h3 r3
      refine Som_of (bin_neq _ _ _ _) (WIf_dec (fun he => ?_) (fun _ => ?_))
      · rw [Ret_1 rfl]; exact hN e he σ3 G2 M3 (h3'.mono (Nat.le_refl a) (by omega))
      exact set0 ht ho0 h3' hx (by omega) b2 b3 b4 hf (by omega) hN hS _ (by simp) (by simp) (by simp) (by simp)
    · exact set0 ht ho0 h1 hx (by omega) b2 b3 b4 hf (by omega) (fun e he σ' G' M' hh => hN e he σ' G' M' (hh.mono (Nat.le_refl a) (by omega))) (fun x' hx' σ' G' M' hh => hS x' hx' σ' G' M' (hh.mono (Nat.le_refl a) (by omega))) _ (by simp) (by simp) (by simp) (by simp)
end
end Go.Am
namespace Go.Am
section
variable {tab : Nat → Option PFn} {σ σ' σ0 : S} {Q : AVal → S → Prop} {G0 G G' M M' : Nat → Prop} {l d pm s : Pos} {a w : Nat} {x x' : Me} {y y' : Sv} {lv lv' : AVal}
theorem record_c (ht : Tab tab) (ho : Ok σ) {e : Int × List Nat} (h0 : -1 ≤ e.1) (h1 : e.1 < 4611686018427387904) (hb : Bytes e.2) (hl : e.2.length ≤ 16184) (hQ : ∀ r σ', Bytes r → r.length ≤ 20000 → Keep0 σ σ' → Q (.str r) σ') : WF tab 96 [.agg [.int .i64 e.1, .str e.2]] σ Q := by
  refine f96_wf ht.t96 ?_
  unfold f96
  obtain ⟨k1, b1, n1⟩ := boxC ho [.int .i64 e.1, .str e.2]
  refine Ala_of (show aBoxV (.agg [.int .i64 e.1, .str e.2]) = some (⟨0, .ex, [.int .i64 e.1, .str e.2]⟩, fun p => .ptr p 0) from rfl) ?_
  generalize σ.next = t1 at *
  generalize σ.new ⟨0, .ex, [.int .i64 e.1, .str e.2]⟩ = σ1 at *
  have k2 : Keep0 σ1 (σ1.bumpT 8) := Keep.bump k1.ok 8
  have b2 := k2.old _ _ b1 (fun h => h)
  generalize σ1.bumpT 8 = σ2 at *
  refine Som_of (vField0 _ _ _) (Som_of (ld b2 rfl) (Som_of (vField0 _ _ _) (Som_of (ld b2 rfl) ?_)))
  refine Num_v ht h0 h1 k2.ok (BySl.nil σ2) (by simp) fun v3 σ3 m3 g3 k3 _ _ => ?_
  have b3 := k3.old _ _ b2 (fun h => h)
  have hln := zz_len (n := e.1) h1
  have g3 : BySl σ3 v3 ([] ++ enc (zz e.1)) m3 := g3.sl
  rw [List.nil_append] at g3
  refine Sure_of (SameO_of (ld b3 rfl) (same_ss _)) (Som_of (g3.str (enc_bytes _)) (Som_of (bin_add_str _ (by omega)) ?_))
  rw [Ret_1 rfl]
  exact hQ _ σ3 (Bytes.app (enc_bytes _) hb) (by rw [List.length_append]; omega) ((k1.trans k2).trans k3)
theorem weight_loop (ht : Tab tab) {es : List (Int × List Nat)} {m : Nat} (hd : ∀ e ∈ es, e.2.length ≤ 16184) (hn : es.length ≤ 10000000) (n : Nat) : ∀ (E : En) (σ : S) (i : Nat) (c : Int), Ok σ → EnAt σ lv es m → i + n = es.length → 0 ≤ c → c ≤ (i : Int) * 16284 → E 3 = .int .i64 c → E 6 = lv → E 7 = .int .i64 (es.length : Int) → E 8 = .int .i64 (i : Int) →
    (∀ (c : Int) σ', 0 ≤ c → c ≤ 200000000000 → Keep0 σ σ' → Q (.int .i64 c) σ') → f109.L0 (WF tab) Q E σ := by
  induction n with
  | zero =>
    intro E σ i c ho hen hi c0 c1 e3 e6 e7 e8 hQ
    refine f109.p0_of ?_
    unfold f109.p0
    rw [e3, e7, e8]
    refine Som_of (bin_lss _ _ _ _) (WIf_f (by omega) ?_)
    rw [Ret_1 rfl]
    exact hQ c σ c0 (by omega) (Keep.refl ho)
  | succ n ih =>
    intro E σ i c ho hen hi c0 c1 e3 e6 e7 e8 hQ
    refine f109.p0_of ?_
    unfold f109.p0
    rw [e3, e6, e7, e8]
    refine Som_of (bin_lss _ _ _ _) (WIf_t (by omega) ?_)
    have hx : i < es.length := by omega
    have hg : es[i]? = some es[i] := List.getElem?_eq_getElem hx
    have hle := hd _ (List.getElem_mem hx)
    generalize es[i] = e at hg hle
    obtain ⟨p, o, h1, h2, _, _⟩ := hen.at hg
    refine Som_of h1 (Som_of h2 ?_)
    obtain ⟨k1, b1, n1⟩ := boxC ho [.int .i64 0, .str []]
    refine Ala_of (show aAllocV [.int .i64 0, .str []] = some (⟨0, .ex, [.int .i64 0, .str []]⟩, fun p => .ptr p 0) from rfl) ?_
    generalize ht5 : σ.next = t5 at *
    generalize σ.new ⟨0, .ex, [.int .i64 0, .str []]⟩ = σ1 at *
    refine Eff_of (storeN_of (xs := [.int .i64 e.1, .str e.2]) b1 rfl (by omega) (by simp)) ?_
    have q1 : ([AVal.int .i64 0, .str []].take 0 ++ [.int .i64 e.1, .str e.2] ++ [AVal.int .i64 0, .str []].drop (0 + 2)) = [.int .i64 e.1, .str e.2] := rfl
    rw [q1]
    have k2 : Keep0 σ (σ1.upd t5 ⟨0, .ex, [.int .i64 e.1, .str e.2]⟩) := k1.then ho (Keep.upd k1.ok b1 (c := ⟨0, .ex, [.int .i64 e.1, .str e.2]⟩) rfl) fun z hz q => by have q : z = t5.nat := q; rw [ht5] at hz; omega
    have b2 : (σ1.upd t5 ⟨0, .ex, [.int .i64 e.1, .str e.2]⟩).blk t5 = some ⟨0, .ex, [.int .i64 e.1, .str e.2]⟩ := blk_upd_same _ _
    generalize σ1.upd t5 ⟨0, .ex, [.int .i64 e.1, .str e.2]⟩ = σ2 at *
    refine Som_of (vField0 _ _ _) (Som_of (ld b2 rfl) (Som_of (vLenStr_str _) (Som_of (bin_add _ _ _ _) (Som_of (bin_add _ _ _ _) (Som_of (bin_add _ _ _ _) ?_)))))
    rw [wrap_i64_in (n := (e.2.length : Int) + 100) (by omega) (by omega), wrap_i64_in (n := c + ((e.2.length : Int) + 100)) (by omega) (by omega), wrap_i64_in (n := (i : Int) + 1) (by omega) (by omega)]
    exact ih _ σ2 (i + 1) (c + ((e.2.length : Int) + 100)) k2.ok (hen.keep0 k2) (by omega) (by omega) (by omega) (by simp) (by simp [e6]) (by simp [e7]) (by simp) fun c' σ' q1 q2 k => hQ c' σ' q1 q2 (k2.trans k)
theorem weight_c (ht : Tab tab) (ho : Ok σ) {es : List (Int × List Nat)} {m : Nat} (hen : EnAt σ lv es m) (hd : ∀ e ∈ es, e.2.length ≤ 16184) (hn : es.length ≤ 10000000) (hQ : ∀ (c : Int) σ', 0 ≤ c → c ≤ 200000000000 → Keep0 σ σ' → Q (.int .i64 c) σ') : WF tab 109 [lv] σ Q := by
  refine f109_wf ht.t109 ?_
  unfold f109
  refine Som_of hen.len ?_
  exact weight_loop ht hd hn es.length _ σ 0 0 ho hen (by omega) (by omega) (by omega) (by simp) (by simp) (by simp) (by simp) hQ
theorem kept_c (ht : Tab tab) (ho : Ok σ) {old h : Hd} {lo lh : AVal} {mo : Nat} (hen : EnAt σ lo old.log mo) (hn : old.log.length ≤ 10000000) (b0 : 0 ≤ old.base) (b1 : old.base ≤ h.base) (b2 : h.base ≤ 1099511627776)
    (hQ : ∀ v j σ', EnAt σ' v (old.log.drop j) mo → Keep0 σ σ' → Q v σ') : WF tab 94 [old.val lo, h.val lh] σ Q := by
  refine f94_wf ht.t94 ?_
  unfold f94
  obtain ⟨q1, k1, c1, n1⟩ := boxH ho old lo
  refine Ala_of q1 ?_
  generalize σ.next = t2 at *
  generalize σ.new ⟨0, .ex, old.cells lo⟩ = σ1 at *
  obtain ⟨q2, k2, c2, n2⟩ := boxH k1.ok h lh
  refine Ala_of q2 ?_
  have c1' := k2.old _ _ c1 (fun h => h)
  generalize σ1.next = t3 at *
  generalize σ1.new ⟨0, .ex, h.cells lh⟩ = σ2 at *
  have k02 := k1.trans k2
  have hen2 := hen.keep0 k02
  have nothing : ∀ σ', Keep0 σ σ' → Ret [some .nsl] σ' Q := fun σ' k => by
    rw [Ret_1 rfl]
    refine hQ .nsl old.log.length σ' ?_ k
    rw [List.drop_of_length_le (Nat.le_refl _)]
    exact SlAt.nil σ' 2 mo
  refine Som_of (vField0 _ _ _) (Som_of (ld c2 rfl) (Som_of (vField0 _ _ _) (Som_of (ld c1' rfl) (Som_of (bin_eql _ _ _ _) (WIf_dec (fun _ => ?_) (fun hne => ?_))))))
  · refine Som_of (vField0 _ _ _) (Som_of (ld c1' rfl) ?_)
    rw [Ret_1 hen2.v1]
    exact hQ lo 0 σ2 (by rw [List.drop_zero]; exact hen2) k02
  refine Som_of (vField0 _ _ _) (Som_of (ld c2 rfl) (Som_of (vField0 _ _ _) (Som_of (ld c1' rfl) (Som_of (bin_sub _ _ _ _) ?_))))
  rw [wrap_i64_in (n := h.base - old.base) (by omega) (by omega)]
  have k3 : Keep0 σ2 (σ2.bumpT 17) := Keep.bump k02.ok 17
  have c3 := k3.old _ _ c1' (fun h => h)
  have c4 := k3.old _ _ c2 (fun h => h)
  have hen3 := hen2.keep0 k3
  have k03 := k02.trans k3
  generalize σ2.bumpT 17 = σ3 at *
  refine Som_of (vField0 _ _ _) (Som_of (ld c3 rfl) (Som_of hen3.len (Som_of (bin_gtr _ _ _ _) ?_)))
  by_cases hgt : (old.log.length : Int) < h.base - old.base
  · rw [decide_eq_true hgt]
    refine Sn_of rfl (Sn_of rfl (Sn_of rfl (Sn_of rfl (Sn_of rfl (Sn_of rfl (Sn_of rfl (Sn_of rfl (Sn_of rfl (Sn_of rfl (Som_of (v := .bool true) rfl ?_))))))))))
    rw [WIf_true]
    exact nothing σ3 k03
  · rw [decide_eq_false hgt]
    obtain ⟨k, hk⟩ := Int.eq_ofNat_of_zero_le (show 0 ≤ h.base - old.base by omega)
    have hk1 : 1 ≤ k := by omega
    have hkl : k ≤ old.log.length := by omega
    have hx : k - 1 < old.log.length := by omega
    have hg : old.log[k - 1]? = some old.log[k - 1] := List.getElem?_eq_getElem hx
    generalize old.log[k - 1] = e at hg
    obtain ⟨p, o, h1, h2, h3, _⟩ := hen3.at hg
    have ek : IntKind.i64.wrap (h.base - old.base - 1) = ((k - 1 : Nat) : Int) := by
      rw [wrap_i64_in (n := h.base - old.base - 1) (by omega) (by omega)]; omega
    refine Sq_of rfl (vField0 _ _ _) (Sq_of rfl (ld c3 rfl) (Sq_of rfl rfl (Sq_of rfl (bin_sub _ _ _ _) ?_)))
    rw [ek]
    refine Sq_of rfl h1 (Sq_of rfl (vField0 _ _ _) (Sq_of rfl h3 (Sq_of rfl (vField0 _ _ _) (Sq_of rfl (ld c4 rfl) (Sq_of rfl (bin_neq _ _ _ _) (Som_of rfl (WIf_dec (fun _ => nothing σ3 k03) (fun _ => ?_))))))))
    rw [hk]
    obtain ⟨v, g1, g2⟩ := SlAt.cutL hen3 (lo := k) hkl
    have g2 : SlAt σ3 v 2 (old.log.drop k).length (ents (old.log.drop k)) mo := by
      rw [ents_drop, List.take_of_length_le (by rw [ents_len, List.length_drop]; omega)] at g2
      rw [List.length_drop]; exact g2
    refine Som_of (vField0 _ _ _) (Som_of (ld c3 rfl) (Som_of g1 ?_))
    rw [Ret_1 g2.v1]
    exact hQ v k σ3 g2 k03
theorem behind_c (ht : Tab tab) (ho : Ok σ) {old h : Hd} {lo lh : AVal} {mh : Nat} (hen : EnAt σ lh h.log mh) (hn : h.log.length < 4611686018427387904) (hQ : ∀ b σ', (b = true → h.Right ∧ old.base ≤ h.base) → Keep0 σ σ' → Q (.bool b) σ') : WF tab 69 [old.val lo, h.val lh] σ Q := by
  refine f69_wf ht.t69 ?_
  unfold f69
  obtain ⟨q1, k1, c1, n1⟩ := boxH ho old lo
  refine Ala_of q1 ?_
  generalize σ.next = t2 at *
  generalize σ.new ⟨0, .ex, old.cells lo⟩ = σ1 at *
  obtain ⟨q2, k2, c2, n2⟩ := boxH k1.ok h lh
  refine Ala_of q2 ?_
  have c1' := k2.old _ _ c1 (fun h => h)
  generalize σ1.next = t3 at *
  generalize σ1.new ⟨0, .ex, h.cells lh⟩ = σ2 at *
  have k02 := k1.trans k2
  refine Som_of (ldN (n := 6) (xs := h.cells lh) c2 (by simp [Hd.cells]) rfl) ?_
  refine right_c ht k02.ok (hen.keep0 k02) hn fun b σ3 hb k3 => ?_
  have c3 := k3.old _ _ c1' (fun h => h)
  have c4 := k3.old _ _ c2 (fun h => h)
  have k03 := k02.trans k3
  refine Som_of (un_not _) ?_
  have no : Ret [some (.bool false)] σ3 Q := by rw [Ret_1 rfl]; exact hQ false σ3 (fun h => by cases h) k03
  have tail : ∀ c : Bool, (c = false → h.Right) → Som (gq1 (isB (.bool c) false) (vFieldAddr 2 (.ptr t3 0))) fun t21 => Som (gq1 (isB (.bool c) false) (vLoad1 t21 σ3)) fun t22 => Som (gq1 (isB (.bool c) false) (vFieldAddr 2 (.ptr t2 0))) fun t23 => Som (gq1 (isB (.bool c) false) (vLoad1 t23 σ3)) fun t24 => Som (gq1 (isB (.bool c) false) (binA .lss .num t22 t24)) fun t25 => Som (vPick (.bool c) (.bool true) t25) fun t26 =>
      WIf t26 (Ret [some (.bool false)] σ3 Q) (Som (vFieldAddr 2 (.ptr t3 0)) fun t27 => Som (vLoad1 t27 σ3) fun t28 => Som (vFieldAddr 2 (.ptr t2 0)) fun t29 => Som (vLoad1 t29 σ3) fun t30 => Som (binA .gtr .num t28 t30) fun t31 =>
        Som (gq1 (isB t31 false) (vFieldAddr 3 (.ptr t3 0))) fun t33 => Som (gq1 (isB t31 false) (vLoad1 t33 σ3)) fun t34 => Som (gq1 (isB t31 false) (vFieldAddr 3 (.ptr t2 0))) fun t35 => Som (gq1 (isB t31 false) (vLoad1 t35 σ3)) fun t36 => Som (gq1 (isB t31 false) (binA .eql .num t34 t36)) fun t37 => Som (gq1 (isB t31 false) (some t37)) fun t38 =>
          Som (gq1 (isB t38 true) (vFieldAddr 4 (.ptr t3 0))) fun t39 => Som (gq1 (isB t38 true) (vLoad1 t39 σ3)) fun t40 => Som (gq1 (isB t38 true) (vFieldAddr 4 (.ptr t2 0))) fun t41 => Som (gq1 (isB t38 true) (vLoad1 t41 σ3)) fun t42 => Som (gq1 (isB t38 true) (binA .eql .num t40 t42)) fun t43 =>
            Som (gq1 (isB t31 false) (vPick t38 t43 (.bool false))) fun t44 => Som (vPick t31 (.bool true) t44) fun t45 => Ret [some t45] σ3 Q) := by
    intro c hc
    refine or5 (fun _ => vField0 _ _ _) (fun _ => ld c4 rfl) (fun _ => vField0 _ _ _) (fun _ => ld c3 rfl) (fun _ => bin_lss _ _ _ _) fun _ _ _ _ _ => ?_
    refine WIf_bool (fun _ => no) (fun hf => ?_)
    simp only [Bool.or_eq_false_iff, decide_eq_false_iff_not] at hf
    have hr := hc hf.1
    have fin : ∀ b : Bool, Ret [some (.bool b)] σ3 Q := fun b => by rw [Ret_1 rfl]; exact hQ b σ3 (fun _ => ⟨hr, by omega⟩) k03
    refine Som_of (vField0 _ _ _) (Som_of (ld c4 rfl) (Som_of (vField0 _ _ _) (Som_of (ld c3 rfl) (Som_of (bin_gtr _ _ _ _) ?_))))
    by_cases h1 : old.base < h.base
    · rw [decide_eq_true h1]
      refine Sn_of rfl (Sn_of rfl (Sn_of rfl (Sn_of rfl (Sn_of rfl (Sn_of rfl (Sn_of rfl (Sn_of rfl (Sn_of rfl (Sn_of rfl (Sn_of rfl (Sn_of rfl (Som_of (v := .bool true) rfl ?_))))))))))))
      exact fin true
    · rw [decide_eq_false h1]
      refine Sq_of rfl (vField0 _ _ _) (Sq_of rfl (ld c4 rfl) (Sq_of rfl (vField0 _ _ _) (Sq_of rfl (ld c3 rfl) (Sq_of rfl (bin_eql _ _ _ _) (Sq_of rfl rfl ?_)))))
      by_cases h2 : h.bterm = old.bterm
      · rw [decide_eq_true h2]
        refine Sq_of rfl (vField0 _ _ _) (Sq_of rfl (ld c4 rfl) (Sq_of rfl (vField0 _ _ _) (Sq_of rfl (ld c3 rfl) (Sq_of rfl (bin_eql_str _ _ _) (Sq_of rfl rfl (Som_of rfl ?_))))))
        exact fin _
      · rw [decide_eq_false h2]
        refine Sn_of rfl (Sn_of rfl (Sn_of rfl (Sn_of rfl (Sn_of rfl (Sq_of (v := .bool false) rfl rfl (Som_of (v := .bool false) rfl ?_))))))
        exact fin false
  cases b with
  | false =>
    refine Sn_of rfl (Sn_of rfl (Sn_of rfl (Sn_of rfl (Sn_of rfl (Sn_of rfl (Sn_of rfl (Sn_of rfl (GE_n rfl (Sn_of rfl (Som_of (v := .bool true) rfl ?_))))))))))
    exact tail true (fun h => by cases h)
  | true =>
    refine Sq_of rfl (vField0 _ _ _) (Sq_of rfl (ld c3 rfl) (Sq_of rfl (vField0 _ _ _) (Sq_of rfl (ld c3 rfl) (Sq_of rfl (vField0 _ _ _) (Sq_of rfl (ld c4 rfl) (Sq_of rfl (vField0 _ _ _) (Sq_of rfl (ld c4 rfl) (GE_t rfl ?_))))))))
    refine may_c ht fun b2 _ => ?_
    refine Sq_of rfl (un_not _) (Som_of rfl ?_)
    exact tail (!b2) (fun _ => hb rfl)
end
end Go.Am
namespace Go.Am
section
variable {tab : Nat → Option PFn} {σ σ' σ0 : S} {Q : AVal → S → Prop} {G0 G G' M M' : Nat → Prop} {l d pm s : Pos} {a w : Nat} {x x' : Me} {y y' : Sv} {lv lv' : AVal}
structure FileOk (y y' : Sv) : Prop where
  f : y'.file = 4 ∨ y'.file = 5
  a0 : 0 ≤ y'.age
  a1 : y'.age ≤ y.age + 1
  d : y'.dead = y.dead
theorem FileOk.self {n : Nat} (h : Sv.Ok y n) : FileOk y y := ⟨h.f, h.a0, by omega, rfl⟩
theorem rise_len {T : Int} : ∀ {t : Int} {es : List (Int × List Nat)}, Rise T t es → ∀ e ∈ es, e.2.length ≤ 16184 ∧ t ≤ e.1 ∧ e.1 ≤ T
  | _, [], _, _, he => by cases he
  | t, x :: es, h, e, he => by
    obtain ⟨h1, h2, h3, h4⟩ := h
    rcases List.mem_cons.1 he with q | q
    · rw [q]; exact ⟨h3, h1, h2⟩
    · obtain ⟨g1, g2, g3⟩ := rise_len h4 e q
      exact ⟨g1, by omega, g3⟩
theorem snap_c (ht : Tab tab) (ho0 : Ok σ0) (h : SW σ0 G0 σ G M l d pm s a w x y lv) {n : Nat} (hy : Sv.Ok y n) (hn : n ≤ 10000000) {hd : Hd} {hv vl : AVal} {es : List (Int × List Nat)} (hr : hd.Right) (hsb : Bytes hd.snap) (hes : EsAt σ G vl es) (hel : ∀ e ∈ es, e.2.length ≤ 16184) (hen : es.length ≤ n) (ha : a ≤ 80000) (hw : w + 100 < 1000000000)
    (hQ : ∀ e y' lv', FileOk y y' → Back σ0 G0 l d pm s (a + 5) (w + 20) x y' lv' (Q (.int .i64 e))) : WF tab 95 [.ptr s 0, hd.val hv, vl] σ Q := by
  refine f95_wf ht.t95 ?_
  unfold f95
  obtain ⟨q1, k1, b1, n1⟩ := boxH h.si.ok hd hv
  refine Ala_of q1 ?_
  have hs0 := h.si.ok
  have h1 := h.k0 k1
  have hes1 := hes.k0 k1
  have tl : ¬ G σ.next.nat := fun hg => by have := h.lw.gl _ hg; omega
  have ts : σ.next ≠ s := fun e => by have := hs0.lt h.sb.blk; rw [← e] at this; omega
  generalize σ.next = t4 at *
  generalize σ.new ⟨0, .ex, hd.cells hv⟩ = σ1 at *
  refine Som_of rfl (Som_of (vField0 _ _ _) (Som_of (ld h1.sb.blk rfl) (Som_of (bin_sub _ _ _ _) ?_)))
  obtain ⟨to, hto, hto2⟩ : ∃ to : Nat, (to = 4 ∨ to = 5) ∧ IntKind.i64.wrap (9 - y.file) = (to : Int) := by
    rcases hy.f with e | e
    · exact ⟨5, .inr rfl, by rw [e]; rfl⟩
    · exact ⟨4, .inl rfl, by rw [e]; rfl⟩
  rw [hto2]
  have k2 : Keep0 σ1 (σ1.bumpT 13) := Keep.bump k1.ok 13
  have h2 := h1.k0 k2
  have b2 := k2.old _ _ b1 (fun h => h)
  have hes2 := hes1.k0 k2
  have ga0 := hy.a0; have ga1 := hy.a1
  have g1 := hr.b0; have g2 := hr.b1; have g3 := hr.c0; have g4 := hr.c1; have g5 := hr.t1; have g6 := hr.s
  generalize σ1.bumpT 13 = σ2 at *
  refine Som_of rfl (Som_of (vField0 _ _ _) (Som_of (ld h2.sb.blk rfl) (Som_of (bin_add _ _ _ _) (Som_of (vField0 _ _ _) (Som_of (ld b2 rfl) (Som_of (vField0 _ _ _) (Som_of (ld b2 rfl) ?_)))))))
  rw [wrap_i64_in (n := y.age + 1) (by omega) (by omega)]
  refine Num_v ht (by omega) (by omega) k2.ok (BySl.nil σ2) (by simp) fun v1 σ3 m1 c1 k3 l3 l3' => ?_
  have ln1 := zz_len (n := y.age + 1) (by omega)
  have b3 := k3.old _ _ b2 (fun h => h)
  refine Sure_of (SameO_of (ld b3 rfl) (same_int _ _)) (Sure_of (SameO_of (ld b3 rfl) (same_int _ _)) ?_)
  refine Num_v ht (by omega) (by omega) k3.ok c1.sl (by simp; omega) fun v2 σ4 m2 c2 k4 l4 l4' => ?_
  have ln2 := zz_len (n := hd.base) (by omega)
  have b4 := k4.old _ _ b3 (fun h => h)
  refine Sure_of (SameO_of (ld b4 rfl) (same_int _ _)) ?_
  refine Num_v ht (by omega) (by omega) k4.ok c2.sl (by simp; omega) fun v3 σ5 m3 c3 k5 l5 l5' => ?_
  have ln3 := zz_len (n := hd.bterm) (by omega)
  have b5 := k5.old _ _ b4 (fun h => h)
  have hb5 : Bytes ([] ++ enc (zz (y.age + 1)) ++ enc (zz hd.base) ++ enc (zz hd.bterm)) := ((Bytes.nil.app (enc_bytes _)).app (enc_bytes _)).app (enc_bytes _)
  have hl5 : ([] ++ enc (zz (y.age + 1)) ++ enc (zz hd.base) ++ enc (zz hd.bterm)).length ≤ 30 := by simp; omega
  generalize [] ++ enc (zz (y.age + 1)) ++ enc (zz hd.base) ++ enc (zz hd.bterm) = p at *
  refine Som_of (vField0 _ _ _) (Som_of (ld b5 rfl) ?_)
  refine text_c ht k5.ok c3.sl (by omega) fun v4 σ6 m4 c4 k6 l6 => ?_
  have hl10 : (enc (2 * hd.snap.length)).length ≤ 10 := enc_len 9 (Nat.lt_of_lt_of_le (show 2 * hd.snap.length < 18446744073709551616 by omega) (by decide))
  have hb6 : Bytes (p ++ enc (2 * hd.snap.length) ++ hd.snap) := (hb5.app (enc_bytes _)).app hsb
  have hl6 : (p ++ enc (2 * hd.snap.length) ++ hd.snap).length ≤ 20000 := by rw [List.length_append, List.length_append]; omega
  generalize p ++ enc (2 * hd.snap.length) ++ hd.snap = p6 at *
  refine Put_c ht k6.ok (BySl.nil σ6) c4.sl hb6 (by rw [List.length_nil]; omega) fun v5 σ7 m5 c5 k7 l7 l7' => ?_
  have k27 := (((k3.trans k4).trans k5).trans k6).trans k7
  have h7 := h2.k0 k27
  have b7 := k27.old _ _ b2 (fun h => h)
  have hes7 := hes2.k0 k27
  have hpl := putF_nil_le (p := p6) (by omega)
  have hpb := putF_nil_by hb6
  have nn := (((k3.trans k4).trans k5).trans k6).next
  have hm5 : ¬ G m5 := fun hg => by have := h2.lw.gl m5 hg; omega
  refine Som_of rfl (Som_of (vField0 _ _ _) (Som_of (ld h7.sb.blk rfl) ?_))
  refine lwroom_c ht h7.si.ok h7.lw fun room σ8 r0 r1 k8 => ?_
  have h8 := h7.k0 k8
  have hes8 := hes7.k0 k8
  refine Som_of c5.sl.len ?_
  obtain ⟨me, hen8, _⟩ := hes8
  refine weight_c ht k8.ok hen8 hel (by omega) fun wt σ9 w0 w1 k9 => ?_
  have k79 := k8.trans k9
  have h9 := h7.k0 k79
  have b9 := k79.old _ _ b7 (fun h => h)
  have hes9 := hes7.k0 k79
  have c9 := c5.sl.keep (M := fun _ => False) (fun _ h => h) k79
  refine Som_of (bin_add _ _ _ _) (Som_of (bin_add _ _ _ _) (Som_of (bin_lss _ _ _ _) (WIf_dec (fun _ => ?_) (fun _ => ?_))))
  · rw [Ret_1 rfl]; exact hQ 10 y lv (.self hy) σ9 G M (h9.mono (by omega) (by omega))
  refine Som_of rfl (Som_of (vField0 _ _ _) (Som_of (ld h9.sb.blk rfl) ?_))
  refine lwwrite_c ht h9.si.ok h9.lw (by omega) (k := to) (by omega) c9 hpb (fun _ => hm5) (by omega) fun e σ10 G10 M10 h10 r10 => ?_
  have h10' := h9.step ho0 h10 r10
  have hes10 := hes9.move h9.si.ok r10.k h9.lw.hG r10.g
  have t4G : ∀ {σ' : S} {G' : Nat → Prop}, Gr σ9 G G' → ¬ G' t4.nat := fun g hg => tl (g.2 _ (k79.ok.lt b9) hg)
  have b10 := r10.k.old _ _ b9 (fun hm => tl (h9.lw.hG _ hm))
  refine Som_of (bin_neq _ _ _ _) (WIf_dec (fun _ => ?_) (fun _ => ?_))
  · rw [Ret_1 rfl]; exact hQ e y lv (.self hy) σ10 G10 M10 (h10'.mono (by omega) (by omega))
  refine Som_of rfl (Som_of (vField0 _ _ _) (Som_of (ld h10'.sb.blk rfl) ?_))
  refine lwdsync_c ht h10'.si.ok h10 fun e σ11 M11 h11 r11 => ?_
  have h11' := h10'.step ho0 h11 r11
  have hes11 := hes10.move h10'.si.ok r11.k h10.hG r11.g
  have b11 := r11.k.old _ _ b10 (fun hm => t4G (σ' := σ10) r10.g (h10.hG _ hm))
  refine Som_of (bin_neq _ _ _ _) (WIf_dec (fun _ => ?_) (fun _ => ?_))
  · rw [Ret_1 rfl]; exact hQ e y lv (.self hy) σ11 G10 M11 (h11'.mono (by omega) (by omega))
  -- the store's block
  obtain ⟨old, hold, hold2⟩ : ∃ f : Nat, f < 64 ∧ y.file = (f : Int) := by
    rcases hy.f with e | e
    · exact ⟨4, by omega, e⟩
    · exact ⟨5, by omega, e⟩
  refine Som_of rfl (Som_of (vField0 _ _ _) (Som_of (ld h11'.sb.blk rfl) (Som_of rfl (Som_of (vField0 _ _ _) (Som_of (ld h11'.sb.blk rfl) (Som_of (bin_add _ _ _ _) (Som_of rfl (Som_of (vField0 _ _ _) ?_))))))))
  rw [wrap_i64_in (n := y.age + 1) (by omega) (by omega)]
  refine Eff_of (store1_of h11'.sb.blk (by simp [Sv.cells]) rfl) ?_
  have q2 : (y.cells pm l d lv).set (0 + 3) (.int .i64 (to : Int)) = ({ y with file := (to : Int) } : Sv).cells pm l d lv := rfl
  rw [q2]
  obtain ⟨h12, k12⟩ := h11'.setS (y' := { y with file := (to : Int) }) (lv' := lv) ho0 h11'.en
  generalize σ11.upd s ⟨0, .ex, ({ y with file := (to : Int) } : Sv).cells pm l d lv⟩ = σ12 at *
  refine Som_of rfl (Som_of (vField0 _ _ _) (Eff_of (store1_of h12.sb.blk (by simp [Sv.cells]) rfl) ?_))
  have q3 : (({ y with file := (to : Int) } : Sv).cells pm l d lv).set (0 + 4) (.int .i64 (y.age + 1)) = ({ y with file := (to : Int), age := y.age + 1 } : Sv).cells pm l d lv := rfl
  rw [q3]
  obtain ⟨h13, k13⟩ := h12.setS (y' := { y with file := (to : Int), age := y.age + 1 }) (lv' := lv) ho0 h12.en
  generalize σ12.upd s ⟨0, .ex, ({ y with file := (to : Int), age := y.age + 1 } : Sv).cells pm l d lv⟩ = σ13 at *
  have k14 : Keep0 σ13 (σ13.bumpT 27) := Keep.bump h13.si.ok 27
  have h14 := h13.k0 k14
  have ks : Keep (fun z => z = s.nat) σ11 (σ13.bumpT 27) := (k12.trans k13).trans k14.to
  have tsn : t4.nat ≠ s.nat := fun e => ts (Pos.nat_inj e)
  have b14 := ks.old _ _ b11 tsn
  have sG : ∀ z, z = s.nat → G10 z := fun z e => by rw [e]; exact h11'.sb.g
  have hes14 := hes11.move h11'.si.ok ks sG (Gr.refl _ _)
  generalize σ13.bumpT 27 = σ14 at *
  refine Som_of (vField0 _ _ _) (Som_of (ld b14 rfl) (Som_of (vField0 _ _ _) (Som_of (ld b14 rfl) (Som_of (vField0 _ _ _) (Som_of (ld b14 rfl) (Som_of rfl (Som_of (vField0 _ _ _) (Som_of (vField0 _ _ _) ?_))))))))
  refine Eff_of (store1_of h14.sb.blk (by simp [Sv.cells]) rfl) ?_
  have q4 : (({ y with file := (to : Int), age := y.age + 1 } : Sv).cells pm l d lv).set (0 + 5 + 2) (.int .i64 hd.base) = ({ y with file := (to : Int), age := y.age + 1, h := { y.h with base := hd.base } } : Sv).cells pm l d lv := rfl
  rw [q4]
  obtain ⟨h15, k15⟩ := h14.setS (y' := { y with file := (to : Int), age := y.age + 1, h := { y.h with base := hd.base } }) (lv' := lv) ho0 h14.en
  have b15 := k15.old _ _ b14 tsn
  have hes15 := hes14.move h14.si.ok k15 sG (Gr.refl _ _)
  generalize σ14.upd s ⟨0, .ex, ({ y with file := (to : Int), age := y.age + 1, h := { y.h with base := hd.base } } : Sv).cells pm l d lv⟩ = σ15 at *
  refine Sure_of (SameO_of (ld b15 rfl) (same_int _ _)) (Sure_of (SameO_of (ld b15 rfl) (same_ss _)) (Som_of rfl (Som_of (vField0 _ _ _) (Som_of (vField0 _ _ _) ?_))))
  refine Eff_of (store1_of h15.sb.blk (by simp [Sv.cells]) rfl) ?_
  have q5 : (({ y with file := (to : Int), age := y.age + 1, h := { y.h with base := hd.base } } : Sv).cells pm l d lv).set (0 + 5 + 3) (.int .i64 hd.bterm) = ({ y with file := (to : Int), age := y.age + 1, h := { y.h with base := hd.base, bterm := hd.bterm } } : Sv).cells pm l d lv := rfl
  rw [q5]
  obtain ⟨h16, k16⟩ := h15.setS (y' := { y with file := (to : Int), age := y.age + 1, h := { y.h with base := hd.base, bterm := hd.bterm } }) (lv' := lv) ho0 h15.en
  have b16 := k16.old _ _ b15 tsn
  have hes16 := hes15.move h15.si.ok k16 sG (Gr.refl _ _)
  generalize σ15.upd s ⟨0, .ex, ({ y with file := (to : Int), age := y.age + 1, h := { y.h with base := hd.base, bterm := hd.bterm } } : Sv).cells pm l d lv⟩ = σ16 at *
  refine Sure_of (SameO_of (ld b16 rfl) (same_ss _)) (Som_of rfl (Som_of (vField0 _ _ _) (Som_of (vField0 _ _ _) ?_)))
  refine Eff_of (store1_of h16.sb.blk (by simp [Sv.cells]) rfl) ?_
  have q6 : (({ y with file := (to : Int), age := y.age + 1, h := { y.h with base := hd.base, bterm := hd.bterm } } : Sv).cells pm l d lv).set (0 + 5 + 4) (.str hd.snap) = ({ y with file := (to : Int), age := y.age + 1, h := { y.h with base := hd.base, bterm := hd.bterm, snap := hd.snap } } : Sv).cells pm l d lv := rfl
  rw [q6]
  obtain ⟨h17, k17⟩ := h16.setS (y' := { y with file := (to : Int), age := y.age + 1, h := { y.h with base := hd.base, bterm := hd.bterm, snap := hd.snap } }) (lv' := lv) ho0 h16.en
  have hes17 := hes16.move h16.si.ok k17 sG (Gr.refl _ _)
  generalize σ16.upd s ⟨0, .ex, ({ y with file := (to : Int), age := y.age + 1, h := { y.h with base := hd.base, bterm := hd.bterm, snap := hd.snap } } : Sv).cells pm l d lv⟩ = σ17 at *
  obtain ⟨m17, hen17, hm17⟩ := hes17
  refine Som_of rfl (Som_of (vField0 _ _ _) (Som_of (vField0 _ _ _) (Eff_of (store1_of h17.sb.blk (by simp [Sv.cells]) hen17.cells) ?_)))
  have q7 : (({ y with file := (to : Int), age := y.age + 1, h := { y.h with base := hd.base, bterm := hd.bterm, snap := hd.snap } } : Sv).cells pm l d lv).set (0 + 5 + 5) vl = ({ y with file := (to : Int), age := y.age + 1, h := { y.h with base := hd.base, bterm := hd.bterm, snap := hd.snap, log := es } } : Sv).cells pm l d vl := rfl
  rw [q7]
  obtain ⟨h18, k18⟩ := h17.setS (y' := { y with file := (to : Int), age := y.age + 1, h := { y.h with base := hd.base, bterm := hd.bterm, snap := hd.snap, log := es } }) (lv' := vl) ho0 ⟨m17, hen17, hm17⟩
  generalize σ17.upd s ⟨0, .ex, ({ y with file := (to : Int), age := y.age + 1, h := { y.h with base := hd.base, bterm := hd.bterm, snap := hd.snap, log := es } } : Sv).cells pm l d vl⟩ = σ18 at *
  have fo : FileOk y ({ y with file := (to : Int), age := y.age + 1, h := { y.h with base := hd.base, bterm := hd.bterm, snap := hd.snap, log := es } } : Sv) := ⟨by show (to : Int) = 4 ∨ (to : Int) = 5; omega, by show 0 ≤ y.age + 1; omega, by show y.age + 1 ≤ y.age + 1; omega, rfl⟩
  have last : ∀ (σ' : S) (G' M' : Nat → Prop) (E : En) (w' : Nat), w' ≤ w + 3 → SW σ0 G0 σ' G' M' l d pm s a w' x ({ y with file := (to : Int), age := y.age + 1, h := { y.h with base := hd.base, bterm := hd.bterm, snap := hd.snap, log := es } } : Sv) vl → E 0 = .ptr s 0 → f95.J0 (WF tab) Q E σ' := by
    intro σ' G' M' E w' hw' hh e0
    refine f95.p0_of ?_
    unfold f95.p0
    rw [e0]
    refine even_c ht ho0 hh (by show 0 ≤ hd.base; omega) (by show hd.base ≤ _; omega) (by show es.length ≤ _; omega) (by omega) (by omega) fun e => ?_
    intro σ2 G2 M2 h2
    rw [Ret_1 rfl]
    exact hQ e _ _ fo σ2 G2 M2 (h2.mono (by omega) (by omega))
  refine Som_of rfl (Som_of (vField0 _ _ _) (Som_of (ld h18.sb.blk rfl) ?_))
  rw [hold2]
  refine lwdsize_c ht h18.lw hold fun sz => ?_
  refine Som_of (bin_gtr _ _ _ _) (WIf_dec (fun _ => ?_) (fun _ => ?_))
  · refine Som_of rfl (Som_of (vField0 _ _ _) (Som_of (ld h18.sb.blk rfl) ?_))
    refine lwdcut_c ht h18.si.ok h18.lw (by omega) hold fun e σ19 G19 M19 h19 r19 => ?_
    have h19' := h18.step ho0 h19 r19
    refine Som_of (bin_neq _ _ _ _) (WIf_dec (fun _ => ?_) (fun _ => ?_))
    · rw [Ret_1 rfl]; exact hQ e _ _ fo σ19 G19 M19 (h19'.mono (by omega) (by omega))
    · exact last σ19 G19 M19 _ _ (by omega) h19' (by simp)
  · exact last σ18 G10 M11 _ _ (by omega) h18 (by simp)
end
end Go.Am
namespace Go.Am
section
variable {tab : Nat → Option PFn} {σ σ' σ0 : S} {Q : AVal → S → Prop} {G0 G G' M M' : Nat → Prop} {l d pm s : Pos} {a w : Nat} {x x' : Me} {y y' : Sv} {lv lv' : AVal}
theorem eqE (p q : Int × List Nat) : ∃ r, vEqAgg [.i, .s] false (.agg [.int .i64 p.1, .str p.2]) (.agg [.int .i64 q.1, .str q.2]) = some (.bool r) := by
  show ∃ r, andThen (andThen (some (ieq p.1 q.1)) fun b => match b with | true => andThen (some (seq p.2 q.2)) fun b => (match b with | true => some true | false => some false) | false => some false) outB = _
  rw [andThen_s]
  cases ieq p.1 q.1 with
  | false => exact ⟨false, outB_eq false⟩
  | true =>
    show ∃ r, andThen (andThen (some (seq p.2 q.2)) fun b => match b with | true => some true | false => some false) outB = _
    rw [andThen_s]
    cases seq p.2 q.2 with
    | false => exact ⟨false, outB_eq false⟩
    | true => exact ⟨true, outB_eq true⟩
structure Aside (σ : S) (G : Nat → Prop) (t : Pos) (h : Hd) (hv : AVal) : Prop where
  b : σ.blk t = some ⟨0, .ex, h.cells hv⟩
  g : ¬ G t.nat
  e : EsAt σ G hv h.log
theorem Aside.go {t : Pos} {h : Hd} {hv : AVal} (z : Aside σ0 G0 t h hv) (hs : SW σ0 G0 σ G M l d pm s a w x y lv) : σ.blk t = some ⟨0, .ex, h.cells hv⟩ ∧ ∃ m, EnAt σ hv h.log m := by
  obtain ⟨m, h1, h2⟩ := z.e
  exact ⟨hs.si.old _ _ z.b z.g, m, h1.keep (fun hz => h2 (fun e => by rw [e] at hz; exact hz rfl)) hs.si⟩
structure Hd.Good (h : Hd) : Prop where
  r : h.Right
  sb : Bytes h.snap
  eb : ∀ e ∈ h.log, Bytes e.2
  n : h.log.length ≤ 3300010
theorem save_app (ht : Tab tab) {h : Hd} {hv : AVal} {t3 : Pos} (hz : Aside σ0 G0 t3 h hv) (hg : h.Good) (ho0 : Ok σ0) {a0 w0 : Nat} (ha0 : a0 ≤ 1000) (hw0 : w0 ≤ 10000) (n : Nat)
    (hQ : ∀ e, Back σ0 G0 l d pm s 6620000 20000000 x y lv (Q (.int .i64 e))) :
    ∀ (E : En) (σ : S) (G M : Nat → Prop) (i : Nat), SW σ0 G0 σ G M l d pm s (a0 + 2 * i) (w0 + 4 * i) x y lv → i + n = h.log.length → E 0 = .ptr s 0 → E 3 = .ptr t3 0 → E 9 = .int .i64 (i : Int) → f70.L3 (WF tab) Q E σ := by
  have hn := hg.n
  have g1 := hg.r.b0; have g2 := hg.r.b1
  induction n with
  | zero =>
    intro E σ G M i hs hi e0 e3 e9
    refine f70.p3_of ?_
    unfold f70.p3
    rw [e3, e9]
    obtain ⟨b3, m, hen⟩ := hz.go hs
    refine Som_of (vField0 _ _ _) (Som_of (ld b3 rfl) (Som_of hen.len (Som_of (bin_lss _ _ _ _) (WIf_f (by omega) ?_))))
    refine f70.p4_of ?_
    unfold f70.p4
    simp only [En.set_get]
    rw [show (if (0 : Nat) = 92 then _ else if (0 : Nat) = 91 then _ else if (0 : Nat) = 90 then _ else if (0 : Nat) = 89 then _ else if (0 : Nat) = 88 then _ else E 0) = E 0 from rfl, e0]
    refine Som_of rfl (Som_of (vField0 _ _ _) (Som_of (ld hs.sb.blk rfl) ?_))
    refine lwsync_c ht hs.si.ok hs.lw fun e σ1 G1 M1 h1 r1 => ?_
    rw [Ret_1 rfl]
    exact hQ e σ1 G1 M1 ((hs.step ho0 h1 r1).mono (by omega) (by omega))
  | succ n ih =>
    intro E σ G M i hs hi e0 e3 e9
    refine f70.p3_of ?_
    unfold f70.p3
    rw [e0, e3, e9]
    obtain ⟨b3, m, hen⟩ := hz.go hs
    refine Som_of (vField0 _ _ _) (Som_of (ld b3 rfl) (Som_of hen.len (Som_of (bin_lss _ _ _ _) (WIf_t (by omega) ?_))))
    have kb : Keep0 σ (σ.bumpT 18) := Keep.bump hs.si.ok 18
    have h1 := hs.k0 kb
    have b4 := kb.old _ _ b3 (fun h => h)
    have hen1 := hen.keep0 kb
    have nb := next_bump (σ := σ) 18
    generalize hσ1 : σ.bumpT 18 = σ1 at *
    have hx : i < h.log.length := by omega
    have hg' : h.log[i]? = some h.log[i] := List.getElem?_eq_getElem hx
    have hel := rise_len hg.r.r _ (List.getElem_mem hx)
    have heb := hg.eb _ (List.getElem_mem hx)
    generalize h.log[i] = e at hg' hel heb
    obtain ⟨p, o, q1, q2, _, _⟩ := hen1.at hg'
    have ht1 := hg.r.t1
    refine Som_of rfl (Som_of (vField0 _ _ _) (Som_of (ld h1.sb.blk rfl) (Som_of (vField0 _ _ _) (Som_of (ld b4 rfl) (Som_of (bin_add _ _ _ _) (Som_of (bin_add _ _ _ _) (Som_of (vField0 _ _ _) (Som_of (ld b4 rfl) (Som_of q1 (Som_of q2 ?_))))))))))
    refine record_c ht h1.si.ok (by omega) (by omega) heb hel.1 fun r σ2 hrb hrl k2 => ?_
    have h2 := h1.k0 k2
    have b5 := k2.old _ _ b4 (fun h => h)
    refine Sure_of (SameO_of (ld h2.sb.blk rfl) (same_pp _ _)) (Sure_of (SameO_of (ld b5 rfl) (same_int _ _)) ?_)
    refine Alb_of (made1 (.str r) rfl (.str [])) ?_
    have hp15 : (Pos.plusT 15 σ.next).nat = σ.next.nat + 15 := plusT_nat 15 _
    have hn2 := k2.next
    have k02 : Keep0 σ σ2 := kb.trans k2
    have hun : Unused σ2 (Pos.plusT 15 σ.next) := k2.unused _ (by omega) (by rw [← hσ1]; exact hs.si.ok.free _ (by omega))
    obtain ⟨k3, more3, _⟩ := Keep.layD k02 ⟨1, .ex, [.str r]⟩ hun (by omega) (by omega)
    have s3 : SlAt (σ2.lay (Pos.plusT 15 σ.next) (Blk.named ⟨1, .ex, [.str r]⟩ (Pos.plusT 15 σ.next))) (.sl (Pos.plusT 15 σ.next) 0 1 1) 1 [r].length (strs [r]) (Pos.plusT 15 σ.next).nat :=
      ⟨rfl, rfl, Nat.le_refl _, fun _ => ⟨⟨1, .ex, [.str r]⟩, by rw [blk_lay, if_pos rfl]; rfl, rfl, Nat.le_refl _, rfl⟩⟩
    have h3 := hs.k0 k3
    have ml := hs.lw.lt
    generalize σ2.lay (Pos.plusT 15 σ.next) (Blk.named ⟨1, .ex, [.str r]⟩ (Pos.plusT 15 σ.next)) = σ3 at *
    refine lwapp_c ht h3.si.ok h3.lw (by omega) (by omega) (rs := [r]) ?_ s3 (fun z hz' => by rw [List.mem_singleton.1 hz']; exact ⟨hrb, hrl⟩) (Nat.le_refl 1) (fun _ hm => by have := ml _ hm; omega) fun e4 σ4 G4 M4 h4 r4 => ?_
    · exact i64_range _
    have h4' := h3.step ho0 h4 r4
    refine Som_of (bin_neq _ _ _ _) (WIf_dec (fun _ => ?_) (fun _ => ?_))
    · rw [Ret_1 rfl]; exact hQ e4 σ4 G4 M4 (h4'.mono (by omega) (by omega))
    refine Som_of (bin_add _ _ _ _) ?_
    rw [wrap_i64_in (n := (i : Int) + 1) (by omega) (by omega)]
    exact ih _ σ4 G4 M4 (i + 1) (h4'.mono (by omega) (by omega)) (by omega) (by simp [e0]) (by simp [e3]) (by simp)
theorem save_rest (ht : Tab tab) {h : Hd} {hv vl : AVal} {es : List (Int × List Nat)} {t3 : Pos} (hz : Aside σ0 G0 t3 h hv) (hzl : EsAt σ0 G0 vl es) (hg : h.Good) (ho0 : Ok σ0) (ha : a ≤ 900) (hw : w ≤ 9000) (hen0 : es.length ≤ 10000000)
    (hQ : ∀ e, Back σ0 G0 l d pm s 6620000 20000000 x y lv (Q (.int .i64 e))) (hs : SW σ0 G0 σ G M l d pm s a w x y lv) (E : En) (e0 : E 0 = .ptr s 0) (e3 : E 3 = .ptr t3 0) (e7 : E 7 = vl) : f70.J0 (WF tab) Q E σ := by
  have hn := hg.n
  have g1 := hg.r.b0; have g2 := hg.r.b1
  have zl : ∀ {σ : S} {G M : Nat → Prop} {a w : Nat}, SW σ0 G0 σ G M l d pm s a w x y lv → ∃ m, EnAt σ vl es m := fun hs => by
    obtain ⟨m, h1, h2⟩ := hzl
    exact ⟨m, h1.keep (fun hz => h2 (fun e => by rw [e] at hz; exact hz rfl)) hs.si⟩
  -- the cut, the entries
  have tail : ∀ (σ : S) (E : En) (k : Nat), SW σ0 G0 σ G M l d pm s a w x y lv → k ≤ h.log.length → E 0 = .ptr s 0 → E 3 = .ptr t3 0 → E 9 = .int .i64 (k : Int) → f70.J2 (WF tab) Q E σ := by
    intro σ E k hs hk e0 e3 e9
    refine f70.p2_of ?_
    unfold f70.p2
    rw [e0, e3, e9]
    have kb : Keep0 σ (σ.bumpT 11) := Keep.bump hs.si.ok 11
    have h1 := hs.k0 kb
    generalize σ.bumpT 11 = σ1 at *
    obtain ⟨b3, m, hen⟩ := hz.go h1
    refine Som_of rfl (Som_of (vField0 _ _ _) (Som_of (ld h1.sb.blk rfl) (Som_of (vField0 _ _ _) (Som_of (ld b3 rfl) (Som_of (bin_add _ _ _ _) (Som_of (bin_add _ _ _ _) ?_))))))
    refine lwcut_c ht h1.si.ok h1.lw (by omega) (by omega) fun e σ2 G2 M2 h2 r2 => ?_
    have h2' := h1.step ho0 h2 r2
    refine Som_of (bin_neq _ _ _ _) (WIf_dec (fun _ => ?_) (fun _ => ?_))
    · rw [Ret_1 rfl]; exact hQ e σ2 G2 M2 (h2'.mono (by omega) (by omega))
    exact save_app ht hz hg ho0 (a0 := a + 1) (w0 := w + 4) (by omega) (by omega) (h.log.length - k) hQ _ σ2 G2 M2 k (h2'.mono (by omega) (by omega)) (by omega) (by simp [e0]) (by simp [e3]) (by simp [e9])
  have loop : ∀ (n : Nat) (E : En) (σ : S) (k : Nat), k + n = es.length → SW σ0 G0 σ G M l d pm s a w x y lv → k ≤ h.log.length → E 0 = .ptr s 0 → E 3 = .ptr t3 0 → E 7 = vl → E 9 = .int .i64 (k : Int) → f70.L1 (WF tab) Q E σ := by
    intro n
    induction n with
    | zero =>
      intro E σ k hk hs hkl e0 e3 e7 e9
      refine f70.p1_of ?_
      unfold f70.p1
      rw [e3, e7, e9]
      obtain ⟨m, hen⟩ := zl hs
      have kb : Keep0 σ (σ.bumpT 23) := Keep.bump hs.si.ok 23
      refine Som_of hen.len (Som_of (bin_lss _ _ _ _) ?_)
      rw [decide_eq_false (show ¬ (k : Int) < (es.length : Int) by omega)]
      refine Sn_of rfl (Sn_of rfl (Sn_of rfl (Sn_of rfl (Sn_of rfl (Som_of (v := .bool false) rfl ?_)))))
      refine Sn_of rfl (Sn_of rfl (Sn_of rfl (Sn_of rfl (Sn_of rfl (Sn_of rfl (Sn_of rfl (Sn_of rfl (Sn_of rfl (Sn_of rfl (Som_of (v := .bool false) rfl ?_))))))))))
      rw [WIf_false]
      exact tail _ _ k (hs.k0 kb) hkl (by simp [e0]) (by simp [e3]) (by simp [e9])
    | succ n ih =>
      intro E σ k hk hs hkl e0 e3 e7 e9
      refine f70.p1_of ?_
      unfold f70.p1
      rw [e3, e7, e9]
      obtain ⟨m0, hen0⟩ := zl hs
      have kb : Keep0 σ (σ.bumpT 23) := Keep.bump hs.si.ok 23
      have h1 := hs.k0 kb
      refine Som_of hen0.len (Som_of (bin_lss _ _ _ _) ?_)
      rw [decide_eq_true (show (k : Int) < (es.length : Int) by omega)]
      obtain ⟨m, hen⟩ := zl h1
      obtain ⟨b3, mh, henh⟩ := hz.go h1
      have stop : ∀ E' : En, E' 0 = .ptr s 0 → E' 3 = .ptr t3 0 → E' 9 = .int .i64 (k : Int) → f70.J2 (WF tab) Q E' (σ.bumpT 23) := fun E' a b c => tail _ E' k h1 hkl a b c
      generalize σ.bumpT 23 = σ1 at *
      refine Sq_of rfl rfl (Sq_of rfl (vField0 _ _ _) (Sq_of rfl (ld b3 rfl) (Sq_of rfl henh.len (Sq_of rfl (bin_lss _ _ _ _) (Som_of rfl ?_)))))
      by_cases hkh : (k : Int) < (h.log.length : Int)
      · rw [decide_eq_true hkh]
        have hx : k < es.length := by omega
        have hg1 : es[k]? = some es[k] := List.getElem?_eq_getElem hx
        have hy : k < h.log.length := by omega
        have hg2 : h.log[k]? = some h.log[k] := List.getElem?_eq_getElem hy
        generalize es[k] = p1 at hg1
        generalize h.log[k] = p2 at hg2
        obtain ⟨q, o, c1, c2, _, _⟩ := hen.at hg1
        obtain ⟨q', o', d1, d2, _, _⟩ := henh.at hg2
        obtain ⟨r, hr⟩ := eqE p1 p2
        refine Sq_of rfl rfl (Sq_of rfl rfl (Sq_of rfl c1 (Sq_of rfl c2 (Sq_of rfl (vField0 _ _ _) (Sq_of rfl (ld b3 rfl) (Sq_of rfl rfl (Sq_of rfl d1 (Sq_of rfl d2 (Sq_of rfl hr (Som_of rfl ?_))))))))))
        cases r with
        | false =>
          rw [WIf_false]
          exact stop _ (by simp [e0]) (by simp [e3]) (by simp [e9])
        | true =>
          rw [WIf_true]
          refine Som_of (bin_add _ _ _ _) ?_
          rw [wrap_i64_in (n := (k : Int) + 1) (by omega) (by omega)]
          exact ih _ σ1 (k + 1) (by omega) h1 (by omega) (by simp [e0]) (by simp [e3]) (by simp [e7]) (by simp)
      · rw [decide_eq_false hkh]
        refine Sn_of rfl (Sn_of rfl (Sn_of rfl (Sn_of rfl (Sn_of rfl (Sn_of rfl (Sn_of rfl (Sn_of rfl (Sn_of rfl (Sn_of rfl (Som_of (v := .bool false) rfl ?_))))))))))
        rw [WIf_false]
        exact stop _ (by simp [e0]) (by simp [e3]) (by simp [e9])
  refine f70.p0_of ?_
  unfold f70.p0
  exact loop es.length _ σ 0 (by omega) hs (by omega) (by simp [e0]) (by simp [e3]) (by simp [e7]) (by simp)
theorem save_c (ht : Tab tab) (ho0 : Ok σ0) (hs : SW σ0 G0 σ G M l d pm s a w x y lv) (hx : Me.Ok x 0) (hy : Sv.Ok y 3300000) {h : Hd} {hv : AVal} (hg : h.Good) (hb : y.h.base ≤ h.base) (hev : EsAt σ G hv h.log) (ha : a ≤ 100) (hw : w ≤ 2000)
    (hQ : ∀ e x' y' lv', FileOk y y' → Back σ0 G0 l d pm s 6620000 20000000 x' y' lv' (Q (.int .i64 e))) : WF tab 70 [.ptr s 0, h.val hv] σ Q := by
  refine f70_wf ht.t70 ?_
  unfold f70
  obtain ⟨q1, k1, b3, n1⟩ := boxH hs.si.ok h hv
  refine Ala_of q1 ?_
  have t3G : ¬ G σ.next.nat := fun hgx => by have := hs.lw.gl _ hgx; omega
  have hs1 := hs.k0 k1
  have z : Aside (σ.new ⟨0, .ex, h.cells hv⟩) G σ.next h hv := ⟨b3, t3G, hev.k0 k1⟩
  generalize σ.next = t3 at *
  generalize σ.new ⟨0, .ex, h.cells hv⟩ = σ1 at *
  have r1 := hs1.re
  have ho1 := hs1.si.ok
  have hR := hy.r
  have fin : ∀ e x' y' lv', FileOk y y' → Back σ1 G l d pm s 6620000 20000000 x' y' lv' (Q (.int .i64 e)) := fun e x' y' lv' hf σ' G' M' hh => hQ e x' y' lv' hf σ' G' M' (hs1.un ho0 hh)
  refine even_c ht ho1 r1 hR.b0 (by have := hR.b1; omega) (by have := hy.n; omega) (by omega) (by omega) fun e => ?_
  intro σ2 G2 M2 s2
  refine Som_of (bin_neq _ _ _ _) (WIf_dec (fun _ => ?_) (fun _ => ?_))
  · rw [Ret_1 rfl]; exact fin e x y lv (.self hy) σ2 G2 M2 (s2.mono (by omega) (by omega))
  have kb : Keep0 σ2 (σ2.bumpT 10) := Keep.bump s2.si.ok 10
  have s3 := s2.k0 kb
  generalize σ2.bumpT 10 = σ3 at *
  obtain ⟨c3, m3, hen3⟩ := z.go s3
  refine Som_of rfl (Som_of (vField0 _ _ _) (Som_of (ld s3.sb.blk rfl) (Som_of (vField0 _ _ _) (Som_of (ld c3 rfl) (Som_of (vField0 _ _ _) (Som_of (ld c3 rfl) ?_))))))
  refine set_c ht ho1 s3 hx (by omega) (fun e he => ?_) (fun x' hx' => ?_)
  · intro σ4 G4 M4 s4
    refine Som_of (bin_neq _ _ _ _) (WIf_t he ?_)
    rw [Ret_1 rfl]; exact fin e x y lv (.self hy) σ4 G4 M4 (s4.mono (by omega) (by omega))
  intro σ4 G4 M4 s4
  refine Som_of (bin_neq _ _ _ _) (WIf_f (by omega) ?_)
  have kb5 : Keep0 σ4 (σ4.bumpT 7) := Keep.bump s4.si.ok 7
  have s5 := s4.k0 kb5
  generalize σ4.bumpT 7 = σ5 at *
  obtain ⟨c5, m5, hen5⟩ := z.go s5
  obtain ⟨me, hen, hme⟩ := s5.en
  refine Som_of rfl (Som_of (vField0 _ _ _) (Som_of (ldN (n := 6) (xs := y.h.cells lv) s5.sb.blk (by simp [Sv.cells]) rfl) (Som_of (ldN (n := 6) (xs := h.cells hv) c5 (by simp [Hd.cells]) rfl) ?_)))
  have gb1 := hg.r.b1
  refine kept_c ht s5.si.ok hen (by have := hy.n; omega) hR.b0 hb (by omega) fun vl j σ6 hvl k6 => ?_
  have s6 := s5.k0 k6
  have hje : y.h.log.drop j ≠ [] → y.h.log ≠ [] := fun hne e => by rw [e] at hne; simp at hne
  have hes6 : EsAt σ6 G4 vl (y.h.log.drop j) := EsAt.of hvl fun hne => hme (hje hne)
  have kb7 : Keep0 σ6 (σ6.bumpT 8) := Keep.bump s6.si.ok 8
  have s7 := s6.k0 kb7
  have hes7 := hes6.k0 kb7
  have z7 : Aside (σ6.bumpT 8) G4 t3 h hv := by
    obtain ⟨c7, _⟩ := z.go s7
    obtain ⟨m7, g1, g2⟩ := z.e
    refine ⟨c7, fun hgx => t3G (s7.gn _ (ho1.lt z.b) hgx), m7, g1.keep (fun hz => g2 (fun e => by rw [e] at hz; exact hz rfl)) s7.si, fun hne hgx => g2 hne (s7.gn _ (SlAt.own_lt g1 ho1 (by have := List.length_pos_iff.2 hne; omega)) hgx)⟩
  generalize σ6.bumpT 8 = σ7 at *
  have c7 := z7.b
  have hlj : (y.h.log.drop j).length ≤ 3300000 := by rw [List.length_drop]; have := hy.n; omega
  have fin7 : ∀ e x' y' lv', FileOk y y' → Back σ7 G4 l d pm s 6620000 20000000 x' y' lv' (Q (.int .i64 e)) := fun e x' y' lv' hf σ' G' M' hh => fin e x' y' lv' hf σ' G' M' (s7.un ho1 hh)
  have r7 := s7.re
  refine Som_of (vField0 _ _ _) (Som_of (ld c7 rfl) (Som_of rfl (Som_of (vField0 _ _ _) (Som_of (vField0 _ _ _) (Som_of (ld s7.sb.blk rfl) (Som_of (bin_neq _ _ _ _) (WIf_dec (fun _ => ?_) (fun _ => ?_))))))))
  · refine Som_of (ldN (n := 6) (xs := h.cells hv) c7 (by simp [Hd.cells]) rfl) ?_
    refine snap_c ht s7.si.ok r7 hy (by omega) hg.r hg.sb hes7 (fun e he => (rise_len hR.r e (List.mem_of_mem_drop he)).1) hlj (by omega) (by omega) fun e y' lv' hf => ?_
    intro σ8 G8 M8 s8
    refine Som_of (bin_neq _ _ _ _) (WIf_dec (fun _ => ?_) (fun _ => ?_))
    · rw [Ret_1 rfl]; exact fin7 e _ y' lv' hf σ8 G8 M8 (s8.mono (by omega) (by omega))
    · exact save_rest ht z7 hes7 hg s7.si.ok (by omega) (by omega) (by omega) (fun e σ' G' M' hh => fin7 e _ y' lv' hf σ' G' M' hh) s8 _ (by simp) (by simp) (by simp)
  · exact save_rest ht z7 hes7 hg s7.si.ok (by omega) (by omega) (by omega) (fun e σ' G' M' hh => fin7 e _ y lv (.self hy) σ' G' M' hh) r7 _ (by simp) (by simp) (by simp)
end
end Go.Am
namespace Go.Am
section
variable {tab : Nat → Option PFn} {σ σ' σ0 : S} {Q : AVal → S → Prop} {G0 G G' M M' : Nat → Prop} {l d pm s : Pos} {a w : Nat} {x x' : Me} {y y' : Sv} {lv lv' : AVal}
theorem EsAt.go {v : AVal} {es : List (Int × List Nat)} (h : EsAt σ0 G0 v es) (ho0 : Ok σ0) (hs : SW σ0 G0 σ G M l d pm s a w x y lv) : EsAt σ G v es := by
  obtain ⟨m, h1, h2⟩ := h
  exact ⟨m, h1.keep (fun hz => h2 (fun e => by rw [e] at hz; exact hz rfl)) hs.si, fun hne hg => h2 hne (hs.gn _ (SlAt.own_lt h1 ho0 (by have := List.length_pos_iff.2 hne; omega)) hg)⟩
theorem Save_c (ht : Tab tab) (ho0 : Ok σ0) (hs : SW σ0 G0 σ G M l d pm s a w x y lv) (hx : Me.Ok x 0) (hy : Sv.Ok y 3300000) {h : Hd} {hv : AVal} (hsb : Bytes h.snap) (heb : ∀ e ∈ h.log, Bytes e.2) (hn : h.log.length ≤ 3300010) (hev : EsAt σ G hv h.log) (ha : a ≤ 100) (hw : w ≤ 2000)
    (hQ : ∀ e x' y' lv', y'.h.Right → y'.h.log.length ≤ 10000000 → Back σ0 G0 l d pm s 6620000 20000000 x' y' lv' (Q (.int .i64 e))) : WF tab 33 [.ptr s 0, h.val hv] σ Q := by
  refine f33_wf ht.t33 ?_
  unfold f33
  obtain ⟨q1, k1, b3, n1⟩ := boxH hs.si.ok h hv
  refine Ala_of q1 ?_
  have gl := hs.lw.gl
  have t3G : ¬ G σ.next.nat := fun hgx => by have := gl _ hgx; omega
  have hs1 := hs.k0 k1
  have hsn : s.nat < σ.next.nat := hs.si.ok.lt hs.sb.blk
  have gl1 : ∀ z, G z → z < σ.next.nat := gl
  generalize σ.next = t3 at *
  generalize σ.new ⟨0, .ex, h.cells hv⟩ = σ1 at *
  refine Som_of rfl (Som_of (vField0 _ _ _) (Som_of (ldN (n := 6) (xs := y.h.cells lv) hs1.sb.blk (by simp [Sv.cells]) rfl) ?_))
  obtain ⟨k2, b5, n2⟩ := boxC k1.ok zeroH
  refine Ala_of (show aAllocV zeroH = some (⟨0, .ex, zeroH⟩, fun p => .ptr p 0) from rfl) ?_
  have t5G : ¬ G σ1.next.nat := fun hgx => by have := gl1 _ hgx; omega
  have b32 := k2.old _ _ b3 (fun h => h)
  have hne : t3.nat ≠ σ1.next.nat := by omega
  have hk12 : ∀ z, z = σ1.next.nat → σ1.next.nat ≤ z := fun z e => by omega
  generalize ht5 : σ1.next = t5 at *
  have hq5 : σ1.next.nat = t5.nat := by rw [ht5]
  generalize σ1.new ⟨0, .ex, zeroH⟩ = σ2 at *
  refine Eff_of (storeN_of (xs := y.h.cells lv) b5 rfl (by omega) (by simp)) ?_
  have e2 : (zeroH.take 0 ++ y.h.cells lv ++ zeroH.drop (0 + 6)) = y.h.cells lv := rfl
  rw [e2]
  have k3' : Keep (fun z => z = t5.nat) σ2 (σ2.upd t5 ⟨0, .ex, y.h.cells lv⟩) := Keep.upd k2.ok b5 rfl
  have b53 : (σ2.upd t5 ⟨0, .ex, y.h.cells lv⟩).blk t5 = some ⟨0, .ex, y.h.cells lv⟩ := blk_upd_same _ _
  have b33 := k3'.old _ _ b32 (fun e => hne e)
  have k03 : Keep0 σ1 (σ2.upd t5 ⟨0, .ex, y.h.cells lv⟩) := k2.then k1.ok k3' fun z hz e => by omega
  generalize σ2.upd t5 ⟨0, .ex, y.h.cells lv⟩ = σ3 at *
  have hs3 := hs1.k0 k03
  have hev3 := hev.k0 (k1.trans k03)
  refine Som_of (ldN (n := 6) (xs := y.h.cells lv) b53 (by simp [Hd.cells]) rfl) (Som_of (ldN (n := 6) (xs := h.cells hv) b33 (by simp [Hd.cells]) rfl) ?_)
  obtain ⟨mh, henh, _⟩ := hev3
  refine behind_c ht hs3.si.ok henh (by omega) fun b σ4 hb k4 => ?_
  have hs4 := hs3.k0 k4
  have hev4 := (hev.k0 (k1.trans k03)).k0 k4
  have b34 := k4.old _ _ b33 (fun h => h)
  have b54 := k4.old _ _ b53 (fun h => h)
  refine Som_of (un_not _) ?_
  have hyn := hy.n
  cases b with
  | false =>
    rw [show (!false) = true from rfl, WIf_true, Ret_1 rfl]
    exact hQ 1 x y lv hy.r (by omega) σ4 G M (hs4.mono (by omega) (by omega))
  | true =>
    rw [show (!true) = false from rfl, WIf_false]
    obtain ⟨hr, hbase⟩ := hb rfl
    refine Som_of rfl (Som_of (vField0 _ _ _) (Som_of (ld hs4.sb.blk rfl) (Som_of (bin_neq _ _ _ _) (WIf_dec (fun _ => ?_) (fun _ => ?_)))))
    · refine Som_of rfl (Som_of (vField0 _ _ _) (Som_of (ld hs4.sb.blk rfl) ?_))
      rw [Ret_1 rfl]
      exact hQ _ x y lv hy.r (by omega) σ4 G M (hs4.mono (by omega) (by omega))
    refine Som_of (ldN (n := 6) (xs := h.cells hv) b34 (by simp [Hd.cells]) rfl) ?_
    have r4 := hs4.re
    have ho4 := hs4.si.ok
    have z4 : Aside σ4 G t3 h hv := ⟨b34, t3G, hev4⟩
    refine save_c ht ho4 r4 hx hy ⟨hr, hsb, heb, hn⟩ hbase hev4 ha hw fun e x' y' lv' hf => ?_
    intro σ5 G5 M5 s5
    have b35 := s5.si.old _ _ b34 t3G
    have b55 := s5.si.old _ _ b54 t5G
    refine Som_of (bin_neq _ _ _ _) (WIf_dec (fun _ => ?_) (fun _ => ?_))
    · refine Som_of (ldN (n := 6) (xs := y.h.cells lv) b55 (by simp [Hd.cells]) rfl) (Som_of rfl (Som_of (vField0 _ _ _) ?_))
      have en5 : EsAt σ5 G5 lv y.h.log := hs4.en.go ho4 s5
      refine Eff_of (storeN_of (xs := y.h.cells lv) s5.sb.blk rfl (by omega) (by simp [Sv.cells])) ?_
      have q4 : (y'.cells pm l d lv').take (0 + 5) ++ y.h.cells lv ++ (y'.cells pm l d lv').drop (0 + 5 + 6) = ({ y' with h := y.h } : Sv).cells pm l d lv := rfl
      rw [q4]
      obtain ⟨s6, k6⟩ := s5.setS (y' := { y' with h := y.h }) (lv' := lv) ho4 en5
      generalize σ5.upd s ⟨0, .ex, ({ y' with h := y.h } : Sv).cells pm l d lv⟩ = σ6 at *
      refine Som_of rfl (Som_of (vField0 _ _ _) (Eff_of (store1_of s6.sb.blk (by simp [Sv.cells]) rfl) ?_))
      have q5 : (({ y' with h := y.h } : Sv).cells pm l d lv).set (0 + 11) (.int .i64 e) = ({ y' with h := y.h, dead := e } : Sv).cells pm l d lv := rfl
      rw [q5]
      obtain ⟨s7, k7⟩ := s6.setS (y' := { y' with h := y.h, dead := e }) (lv' := lv) ho4 s6.en
      rw [Ret_1 rfl]
      exact hQ e x' ({ y' with h := y.h, dead := e } : Sv) lv hy.r (by show y.h.log.length ≤ _; omega) _ G5 M5 (hs4.un ho0 s7)
    · refine Som_of (ldN (n := 6) (xs := h.cells hv) b35 (by simp [Hd.cells]) rfl) ?_
      obtain ⟨m5, hen5, _⟩ := hev4.go ho4 s5
      refine copy_c ht s5.si.ok hen5 (by omega) fun v σ6 m6 g6 k6 l6 => ?_
      have s6 := s5.k0 k6
      refine Som_of rfl (Som_of (vField0 _ _ _) ?_)
      refine Eff_of (storeN_of (xs := h.cells v) s6.sb.blk rfl (by omega) (by simp [Sv.cells])) ?_
      have q4 : (y'.cells pm l d lv').take (0 + 5) ++ h.cells v ++ (y'.cells pm l d lv').drop (0 + 5 + 6) = ({ y' with h := h } : Sv).cells pm l d v := rfl
      rw [q4]
      obtain ⟨s7, k7⟩ := s6.setS (y' := { y' with h := h }) (lv' := v) ho4 (EsAt.of g6.sl fun _ hg => by have := s5.lw.gl _ hg; omega)
      rw [Ret_1 rfl]
      exact hQ 0 x' ({ y' with h := h } : Sv) v hr (by show h.log.length ≤ _; omega) _ G5 M5 (hs4.un ho0 s7)
theorem GrAt.cut {v : AVal} {esz n m lo hi : Nat} {cs : List AVal} (h : GrAt σ v esz n cs m) (h1 : lo ≤ hi) (h2 : hi ≤ n) {L H : Option AVal}
    (hL : ∀ y, hi ≤ y → bnd L 0 hi = some lo) (hH : ∀ y, n ≤ y → bnd H n y = some hi) :
    ∃ v', vSlSl esz v L H none = some v' ∧ GrAt σ v' esz (hi - lo) ((cs.drop (lo * esz)).take ((hi - lo) * esz)) m := by
  obtain ⟨h0, h⟩ := h
  have hmul : (hi - lo) * esz = hi * esz - lo * esz := Nat.sub_mul _ _ _
  have m1 := Nat.mul_le_mul_right esz h1
  have m2 := Nat.mul_le_mul_right esz h2
  have hlen : ((cs.drop (lo * esz)).take ((hi - lo) * esz)).length = (hi - lo) * esz := by
    rw [List.length_take, List.length_drop]; omega
  cases v with
  | nsl =>
    have h : n = 0 := h
    subst h
    have e1 : hi = 0 := by omega
    subst e1
    have e2 : lo = 0 := by omega
    subst e2
    refine ⟨.nsl, ?_, hlen, rfl⟩
    show andThen (bounds L H none 0 0) (fun _ => some AVal.nsl) = _
    unfold bounds
    rw [bnd_none, andThen_s, hH 0 (Nat.le_refl _), andThen_s, hL 0 (Nat.le_refl _)]; rfl
  | sl b o len cap =>
    obtain ⟨rfl, hn, blk, g1, g2, g3, g4, g5⟩ := h
    have m3 := Nat.mul_le_mul_right esz hn
    have hb : bounds L H none len cap = some (lo, hi, cap) := by
      unfold bounds
      rw [bnd_none, andThen_s, hH cap hn, andThen_s, hL cap (by omega)]; rfl
    show ∃ v', andThen (bounds L H none len cap) (slKnown esz b o) = some v' ∧ _
    rw [hb, andThen_s]
    unfold slKnown
    simp only
    cases hbeq : Nat.beq cap lo with
    | true =>
      have e := Nat.eq_of_beq_eq_true hbeq
      have e1 : hi - lo = 0 := by omega
      have e2 : cap - lo = 0 := by omega
      refine ⟨.sl b o (hi - lo) (cap - lo), by unfold outSl; simp only [forceNat_eq], hlen, rfl, by omega, blk, g1, g2, ?_, ?_, g5⟩
      · rw [e2, Nat.zero_mul]; omega
      · rw [e1, Nat.zero_mul]; simp
    | false =>
      have hcl : (cap - lo) * esz = cap * esz - lo * esz := Nat.sub_mul _ _ _
      have m4 := Nat.mul_le_mul_right esz (show lo ≤ cap by omega)
      refine ⟨.sl b (o + lo * esz) (hi - lo) (cap - lo), by unfold outSl; simp only [forceNat_eq], hlen, rfl, by omega, blk, g1, g2, by omega, ?_, g5⟩
      rw [← g4, List.drop_take, List.drop_drop, List.take_take, Nat.min_eq_left (by omega)]
  | slu b o len z =>
    obtain ⟨rfl, rfl, blk, g1, g2, g3, g4, g5⟩ := h
    have hb : bounds L H none len len = some (lo, hi, len) := by
      unfold bounds
      rw [bnd_none, andThen_s, hH len (Nat.le_refl _), andThen_s, hL len (by omega)]; rfl
    refine ⟨.slu b (o + lo * z) (hi - lo) z, ?_, hlen, rfl, rfl, blk, g1, g2, by omega, ?_, g5⟩
    · show test (Nat.beq z z) (andThen (bounds L H none len len) fun (l, h, _) => outSlu b (o + l * z) (h - l) z) = _
      rw [Nat.beq_refl, test_tt, hb, andThen_s]
      unfold outSlu; simp only [forceNat_eq]
    · rw [← g4, List.drop_take, List.drop_drop, List.take_take, Nat.min_eq_left (by omega)]
  | _ => exact h.elim
theorem within_v (ht : Tab tab) {a lo hi : Int} (h0 : -2305843009213693952 ≤ lo) (h1 : lo ≤ hi) (h2 : hi ≤ 2305843009213693952) (hQ : ∀ r, lo ≤ r → r ≤ hi → Q (.int .i64 r) σ) : WF tab 11 [.int .i64 a, .int .i64 lo, .int .i64 hi] σ Q := by
  refine f11_wf ht.t11 ?_
  unfold f11
  refine Som_of (bin_sub _ _ _ _) (Som_of (bin_add _ _ _ _) ?_)
  rw [wrap_i64_in (n := hi - lo) (by omega) (by omega), wrap_i64_in (n := hi - lo + 1) (by omega) (by omega)]
  refine Som_of (bin_rem _ _ _ _ (by omega)) (Som_of (bin_lss _ _ _ _) ?_)
  have b1 : -(hi - lo + 1) < Int.tmod a (hi - lo + 1) := by
    have := Int.lt_tmod_of_pos a (b := hi - lo + 1) (by omega)
    omega
  have b2 : Int.tmod a (hi - lo + 1) < hi - lo + 1 := Int.tmod_lt_of_pos a (by omega)
  generalize Int.tmod a (hi - lo + 1) = t at *
  refine WIf_dec (fun hn => ?_) (fun hp => ?_)
  · refine Som_of (bin_add _ _ _ _) (Som_of (bin_sub _ _ _ _) (Som_of (bin_add _ _ _ _) (Som_of (bin_add _ _ _ _) ?_)))
    rw [wrap_i64_in (n := t + hi) (by omega) (by omega), wrap_i64_in (n := t + hi - lo) (by omega) (by omega), wrap_i64_in (n := t + hi - lo + 1) (by omega) (by omega), wrap_i64_in (n := lo + (t + hi - lo + 1)) (by omega) (by omega), Ret_1 rfl]
    exact hQ _ (by omega) (by omega)
  · refine Som_of (bin_add _ _ _ _) ?_
    rw [wrap_i64_in (n := lo + t) (by omega) (by omega), Ret_1 rfl]
    exact hQ _ (by omega) (by omega)
end
end Go.Am
namespace Go.Am
section
variable {tab : Nat → Option PFn} {σ σ' σ1 : S} {Q : AVal → S → Prop} {n1 : Nat} {t2 t3 t4 t5 : Pos} {h h' : Hd} {v v' : AVal}
structure Nf (h : Hd) (n : Nat) : Prop where
  b0 : 0 ≤ h.bterm
  b1 : h.bterm ≤ h.term
  t1 : h.term ≤ 2199023255552
  e : ∀ e ∈ h.log, 0 ≤ e.1 ∧ e.1 ≤ h.term ∧ Bytes e.2
  s : Bytes h.snap
  n : h.log.length ≤ n
structure Nx (σ1 : S) (n1 : Nat) (t5 : Pos) (n : Nat) (σ : S) (h : Hd) (v : AVal) : Prop where
  k : Keep (fun z => n1 ≤ z) σ1 σ
  b5 : σ.blk t5 = some ⟨0, .ex, h.cells v⟩
  n5 : n1 ≤ t5.nat
  g : ∃ m, GrAt σ v 2 h.log.length (ents h.log) m ∧ n1 ≤ m ∧ m ≠ t5.nat ∧ m < σ.next.nat
  f : Nf h n
theorem Nx.upd {n n' : Nat} (x : Nx σ1 n1 t5 n σ h v) (hg : ∃ m, GrAt σ v' 2 h'.log.length (ents h'.log) m ∧ n1 ≤ m ∧ m ≠ t5.nat ∧ m < σ.next.nat) (f : Nf h' n') : Nx σ1 n1 t5 n' (σ.upd t5 ⟨0, .ex, h'.cells v'⟩) h' v' := by
  have k : Keep (fun z => z = t5.nat) σ (σ.upd t5 ⟨0, .ex, h'.cells v'⟩) := Keep.upd x.k.ok x.b5 rfl
  obtain ⟨m, g1, g2, g3, g4⟩ := hg
  exact ⟨x.k.trans (k.mono fun z e => by rw [e]; exact x.n5), blk_upd_same _ _, x.n5, ⟨m, g1.keep (fun e => g3 e) k, g2, g3, g4⟩, f⟩
theorem Nx.k0 {n : Nat} (x : Nx σ1 n1 t5 n σ h v) (k : Keep0 σ σ') : Nx σ1 n1 t5 n σ' h v := by
  obtain ⟨m, g1, g2, g3, g4⟩ := x.g
  exact ⟨x.k.trans k.to, k.old _ _ x.b5 (fun h => h), x.n5, ⟨m, g1.keep (M := fun _ => False) (fun h => h) k, g2, g3, by have := k.next; omega⟩, x.f⟩
theorem Nx.sl {n : Nat} (x : Nx σ1 n1 t5 n σ h v) : ∃ m, EnAt σ v h.log m ∧ n1 ≤ m := by
  obtain ⟨m, g1, g2, _⟩ := x.g
  exact ⟨m, g1.sl, g2⟩
theorem Nx.old {n : Nat} (x : Nx σ1 n1 t5 n σ h v) {p : Pos} {cs : List AVal} (hb : σ1.blk p = some ⟨0, .ex, cs⟩) (hp : p.nat < n1) : σ.blk p = some ⟨0, .ex, cs⟩ := x.k.old _ _ hb (fun e => by have e : n1 ≤ p.nat := e; omega)
structure Nask where
  kind : Int
  t : Int
  v : Int
  b : Int
  n : Int
  k : Int
  z : Int
  es : List (Int × List Nat)
  s : List Nat
def Nask.cells (q : Nask) (ev : AVal) (hc : List AVal) : List AVal := .int .i64 q.kind :: .int .i64 q.t :: .int .i64 q.v :: .int .i64 q.b :: .int .i64 q.n :: .int .i64 q.k :: .int .i64 q.z :: ev :: .str q.s :: hc
variable {q : Nask} {ev : AVal} {hc : List AVal} {me : Nat}
theorem next_loop (ht : Tab tab) (hb3 : σ1.blk t3 = some ⟨0, .ex, q.cells ev hc⟩) (hb4 : σ1.blk t4 = some ⟨0, .ex, zeroH⟩) (h3 : t3.nat < n1) (h4 : t4.nat < n1) (hev : EnAt σ1 ev q.es me) (hme : q.es ≠ [] → me < n1) (heb : ∀ e ∈ q.es, Bytes e.2) {N : Nat} (hN : N ≤ 3300010)
    (hQ : ∀ h v σ' m, EnAt σ' v h.log m → n1 ≤ m → Nf h N → Keep (fun z => n1 ≤ z ∨ z = t4.nat) σ1 σ' → Q (h.val v) σ') (c : Nat) :
    ∀ (E : En) (σ : S) (i : Nat) (h : Hd) (v : AVal), Nx σ1 n1 t5 (N - c) σ h v → c ≤ N → i + c = 5 → n1 ≤ σ.next.nat → E 3 = .ptr t3 0 → E 4 = .ptr t4 0 → E 5 = .ptr t5 0 → E 7 = .int .i64 (i : Int) → f34.L3 (WF tab) Q E σ := by
  have fin : ∀ (E : En) (σ : S) (h : Hd) (v : AVal) (n : Nat), Nx σ1 n1 t5 n σ h v → n ≤ N → E 4 = .ptr t4 0 → E 5 = .ptr t5 0 → f34.J5 (WF tab) Q E σ := by
    intro E σ h v n x hn e4 e5
    refine f34.p5_of ?_
    unfold f34.p5
    rw [e4, e5]
    have c4 := x.old hb4 h4
    refine Som_of (ldN (n := 6) (xs := h.cells v) x.b5 (by simp [Hd.cells]) rfl) (Eff_of (storeN_of (xs := h.cells v) c4 rfl (by omega) (by simp)) ?_)
    have e2 : (zeroH.take 0 ++ h.cells v ++ zeroH.drop (0 + 6)) = h.cells v := rfl
    rw [e2, ldN (n := 6) (xs := h.cells v) (blk_upd_same _ _) (by simp [Hd.cells]) rfl, Ret_1 rfl]
    have k : Keep (fun z => z = t4.nat) σ (σ.upd t4 ⟨0, .ex, h.cells v⟩) := Keep.upd x.k.ok c4 rfl
    obtain ⟨m, g1, g2⟩ := x.sl
    refine hQ h v _ m (SlAt.keep g1 (fun _ e => by omega) k) g2 ⟨x.f.b0, x.f.b1, x.f.t1, x.f.e, x.f.s, by have := x.f.n; omega⟩ ((x.k.mono fun z e => .inl e).trans (k.mono fun z e => .inr e))
  have evAt : ∀ {σ : S} {h : Hd} {v : AVal} {n : Nat}, Nx σ1 n1 t5 n σ h v → EnAt σ ev q.es me := fun x => SlAt.keep hev (fun hz e => by have := hme (fun e => by rw [e] at hz; exact hz rfl); omega) x.k
  induction c with
  | zero =>
    intro E σ i h v x hc hi hn e3 e4 e5 e7
    refine f34.p3_of ?_
    unfold f34.p3
    rw [e3, e7]
    have c3 := x.old hb3 h3
    refine Som_of (vField0 _ _ _) (Som_of (ld c3 rfl) (Som_of (evAt x).len (Som_of (bin_lss _ _ _ _) ?_)))
    refine and2 (fun _ => rfl) (fun _ => bin_lss _ _ _ _) fun _ _ => ?_
    rw [decide_eq_false (show ¬ (i : Int) < 5 by omega), Bool.and_false, WIf_false]
    exact fin _ σ h v _ x (Nat.sub_le _ _) (by simp [e4]) (by simp [e5])
  | succ c ih =>
    intro E σ i h v x hc hi hn e3 e4 e5 e7
    refine f34.p3_of ?_
    unfold f34.p3
    rw [e3, e5, e7]
    have c3 := x.old hb3 h3
    refine Som_of (vField0 _ _ _) (Som_of (ld c3 rfl) (Som_of (evAt x).len (Som_of (bin_lss _ _ _ _) ?_)))
    refine and2 (fun _ => rfl) (fun _ => bin_lss _ _ _ _) fun _ _ => ?_
    by_cases hil : i < q.es.length
    case neg =>
      rw [decide_eq_false (show ¬ (i : Int) < (q.es.length : Int) by omega), Bool.false_and, WIf_false]
      exact fin _ σ h v _ x (Nat.sub_le _ _) (by simp [e4]) (by simp [e5])
    rw [decide_eq_true (show (i : Int) < (q.es.length : Int) by omega), decide_eq_true (show (i : Int) < 5 by omega), Bool.and_true, WIf_true]
    obtain ⟨m0, hsl, _⟩ := x.sl
    refine Som_of (vField0 _ _ _) (Som_of (ld x.b5 rfl) (Som_of (vField0 _ _ _) (Som_of (ld x.b5 rfl) (Som_of hsl.len (Som_of (bin_gtr _ _ _ _) ?_)))))
    -- an entry of some term from on
    have body : ∀ (E' : En) (t : Int), 0 ≤ t → t ≤ h.term → E' 3 = .ptr t3 0 → E' 4 = .ptr t4 0 → E' 5 = .ptr t5 0 → E' 7 = .int .i64 (i : Int) → E' 8 = .int .i64 t → f34.J4 (WF tab) Q E' σ := by
      intro E' t t0 t1 a3 a4 a5 a7 a8
      refine f34.p4_of ?_
      unfold f34.p4
      rw [a3, a5, a7, a8]
      have kb : Keep0 σ (σ.bumpT 11) := Keep.bump x.k.ok 11
      have x1 := x.k0 kb
      have hn1 := kb.next
      generalize σ.bumpT 11 = σa at *
      have c3a := x1.old hb3 h3
      have hg : q.es[i]? = some q.es[i] := List.getElem?_eq_getElem hil
      have hgb := heb _ (List.getElem_mem hil)
      generalize q.es[i] = e at hg hgb
      obtain ⟨p, o, g1, _, g3, _⟩ := (evAt x1).at hg
      have ht1 := x.f.t1
      refine Som_of (vField0 _ _ _) (Som_of (ld c3a rfl) (Som_of g1 (Som_of (vField0 _ _ _) (Som_of g3 (Som_of (vField0 _ _ _) (Som_of (ld x1.b5 rfl) ?_))))))
      refine within_v ht (by omega) t1 (by omega) fun r r0 r1 => ?_
      refine Som_of (bin_lss _ _ _ _) (WIf_dec (fun _ => ?_) (fun _ => ?_))
      · exact fin _ σa h v _ x1 (Nat.sub_le _ _) (by simp [a4]) (by simp [a5])
      have kb2 : Keep0 σa (σa.bumpT 14) := Keep.bump x1.k.ok 14
      have x2 := x1.k0 kb2
      have nb := next_bump (σ := σa) 14
      generalize hσb : σa.bumpT 14 = σb at *
      have c3b := x2.old hb3 h3
      obtain ⟨p', o', d1, _, _, d4⟩ := (evAt x2).at hg
      refine Som_of (vField0 _ _ _) (Som_of (ld x2.b5 rfl) (Som_of (vField0 _ _ _) (Som_of (ld c3b rfl) (Som_of d1 (Som_of (vField0 _ _ _) (Som_of d4 ?_))))))
      refine Som_of (show vBuild [AVal.int .i64 0, .str []] [(0, 1, .int .i64 r), (1, 1, .str e.2)] = some (.agg [.int .i64 r, .str e.2]) from rfl) ?_
      refine Alb_of (made2c _ _ _ _) ?_
      have hp10 : (Pos.plusT 10 σa.next).nat = σa.next.nat + 10 := plusT_nat 10 _
      have hun : Unused σb (Pos.plusT 10 σa.next) := by rw [← hσb]; exact x1.k.ok.free _ (by omega)
      obtain ⟨k3, more3, _⟩ := Keep.layD kb2 ⟨2, .ex, [.int .i64 r, .str e.2]⟩ hun (by omega) (by omega)
      have s3 : SlAt (σb.lay (Pos.plusT 10 σa.next) (Blk.named ⟨2, .ex, [.int .i64 r, .str e.2]⟩ (Pos.plusT 10 σa.next))) (.sl (Pos.plusT 10 σa.next) 0 1 1) 2 1 [.int .i64 r, .str e.2] (Pos.plusT 10 σa.next).nat :=
        ⟨rfl, rfl, Nat.le_refl _, fun _ => ⟨⟨2, .ex, [.int .i64 r, .str e.2]⟩, by rw [blk_lay, if_pos rfl]; rfl, rfl, Nat.le_refl _, rfl⟩⟩
      have x3 := x1.k0 k3
      have hn3 := k3.next
      generalize σb.lay (Pos.plusT 10 σa.next) (Blk.named ⟨2, .ex, [.int .i64 r, .str e.2]⟩ (Pos.plusT 10 σa.next)) = σc at *
      obtain ⟨m, gg, gn, g5, gl⟩ := x3.g
      have hxn := x.f.n
      obtain ⟨v', σ', m', a1, g1', k1, l1⟩ := append_gr x3.k.ok gg s3.slLen (s3.slRead (Nat.le_refl 1)) (by rfl) (bytes := 24) (by omega)
      refine Eff_of a1 (Som_of (vField0 _ _ _) ?_)
      have hb' := k1.old _ _ x3.b5 g5.symm
      refine Eff_of (store1_of hb' (by simp [Hd.cells]) g1'.sl.cells) ?_
      have e1 : (h.cells v).set (0 + 5) v' = ({ h with log := h.log ++ [(r, e.2)] } : Hd).cells v' := rfl
      rw [e1]
      have hlt5 := x3.k.ok.lt x3.b5
      have g2' : GrAt σ' v' 2 (h.log ++ [(r, e.2)]).length (ents (h.log ++ [(r, e.2)])) m' := by rw [List.length_append, ents_app]; exact g1'
      have kn := k1.next
      have k2 : Keep (fun z => z = t5.nat) σ' (σ'.upd t5 ⟨0, .ex, ({ h with log := h.log ++ [(r, e.2)] } : Hd).cells v'⟩) := Keep.upd k1.ok hb' rfl
      have m5 : m' ≠ t5.nat := by rcases l1 with z | z <;> omega
      refine Som_of (bin_add _ _ _ _) ?_
      rw [wrap_i64_in (n := (i : Int) + 1) (by omega) (by omega)]
      refine ih _ _ (i + 1) ({ h with log := h.log ++ [(r, e.2)] } : Hd) v' ⟨(x3.k.trans (k1.mono fun z y => by rw [y]; exact gn)).trans (k2.mono fun z y => by rw [y]; exact x3.n5), blk_upd_same _ _, x3.n5, ⟨m', g2'.keep (fun y => m5 y) k2, by rcases l1 with z | z <;> omega, m5, by show m' < σ'.next.nat; rcases l1 with z | z <;> omega⟩,
        ⟨x.f.b0, x.f.b1, x.f.t1, fun y hy => ?_, x.f.s, by show (h.log ++ [(r, e.2)]).length ≤ _; rw [List.length_append]; show h.log.length + 1 ≤ _; omega⟩⟩ (by omega) (by omega) (by show n1 ≤ σ'.next.nat; omega) (by simp [a3]) (by simp [a4]) (by simp [a5]) (by simp)
      rcases List.mem_append.1 hy with z | z
      · exact x.f.e y z
      · rw [List.mem_singleton.1 z]; exact ⟨by show 0 ≤ r; omega, r1, hgb⟩
    refine WIf_dec (fun hpos => ?_) (fun _ => ?_)
    · have hx : h.log.length - 1 < h.log.length := by omega
      have hg : h.log[h.log.length - 1]? = some h.log[h.log.length - 1] := List.getElem?_eq_getElem hx
      have hge := x.f.e _ (List.getElem_mem hx)
      generalize h.log[h.log.length - 1] = e at hg hge
      obtain ⟨p, o, g1, _, g3, _⟩ := EnAt.at hsl hg
      have hxn := x.f.n
      refine Som_of (vField0 _ _ _) (Som_of (ld x.b5 rfl) (Som_of (vField0 _ _ _) (Som_of (ld x.b5 rfl) (Som_of hsl.len (Som_of (bin_sub _ _ _ _) ?_)))))
      have ek : IntKind.i64.wrap ((h.log.length : Int) - 1) = ((h.log.length - 1 : Nat) : Int) := by
        rw [wrap_i64_in (n := (h.log.length : Int) - 1) (by omega) (by omega)]; omega
      rw [ek]
      refine Som_of g1 (Som_of (vField0 _ _ _) (Som_of g3 ?_))
      exact body _ e.1 hge.1 hge.2.1 (by simp [e3]) (by simp [e4]) (by simp [e5]) (by simp [e7]) (by simp)
    · exact body _ h.bterm x.f.b0 x.f.b1 (by simp [e3]) (by simp [e4]) (by simp [e5]) (by simp [e7]) (by simp)
end
end Go.Am
