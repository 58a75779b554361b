/-
  The store, as conditions over the evaluator. Conditions: none.
-/
import Derived.Test.YtkgjghlklniaeaaS1
namespace Go.Am
section
variable {tab : Nat → Option PFn} {σ σ' σ1 : S} {Q : AVal → S → Prop} {n1 : Nat} {t2 t3 t4 t5 : Pos} {h h' : Hd} {v v' : AVal} {q : Nask} {ev : AVal} {hc : List AVal} {me : Nat}
theorem next1 (ht : Tab tab) (hb3 : σ1.blk t3 = some ⟨0, .ex, q.cells ev hc⟩) (hb4 : σ1.blk t4 = some ⟨0, .ex, zeroH⟩) (h3 : t3.nat < n1) (h4 : t4.nat < n1) (hev : EnAt σ1 ev q.es me) (hme : q.es ≠ [] → me < n1) (heb : ∀ e ∈ q.es, Bytes e.2) {N : Nat} (hN : N ≤ 3300010) (h5N : 5 ≤ N)
    (hQ : ∀ h v σ' m, EnAt σ' v h.log m → n1 ≤ m → Nf h N → Keep (fun z => n1 ≤ z ∨ z = t4.nat) σ1 σ' → Q (h.val v) σ') (E : En) (x : Nx σ1 n1 t5 (N - 5) σ h v) (hn : n1 ≤ σ.next.nat) (e3 : E 3 = .ptr t3 0) (e4 : E 4 = .ptr t4 0) (e5 : E 5 = .ptr t5 0) : f34.J1 (WF tab) Q E σ := by
  have go : ∀ (E : En) (σ : S) (h : Hd) (v : AVal), Nx σ1 n1 t5 (N - 5) σ h v → n1 ≤ σ.next.nat → E 3 = .ptr t3 0 → E 4 = .ptr t4 0 → E 5 = .ptr t5 0 → f34.J2 (WF tab) Q E σ := by
    intro E σ h v x hn e3 e4 e5
    refine f34.p2_of ?_
    unfold f34.p2
    exact next_loop ht hb3 hb4 h3 h4 hev hme heb hN hQ 5 _ σ 0 h v x h5N rfl hn (by simp [e3]) (by simp [e4]) (by simp [e5]) (by simp)
  refine f34.p1_of ?_
  unfold f34.p1
  rw [e3, e5]
  have c3 := x.old hb3 h3
  obtain ⟨m, gg, gn, g5, gl⟩ := x.g
  refine Som_of (vField0 _ _ _) (Som_of (ld c3 rfl) (Som_of (bin_geq _ _ _ _) ?_))
  refine and6 (fun _ => vField0 _ _ _) (fun _ => ld c3 rfl) (fun _ => vField0 _ _ _) (fun _ => ld x.b5 rfl) (fun _ => gg.sl.len) (fun _ => bin_lss _ _ _ _) fun _ _ _ _ _ _ => ?_
  refine WIf_bool (fun hb => ?_) (fun _ => ?_)
  · simp only [Bool.and_eq_true, decide_eq_true_eq] at hb
    obtain ⟨k, hk⟩ := Int.eq_ofNat_of_zero_le hb.1
    have hkl : k ≤ h.log.length := by omega
    obtain ⟨w, w1, w2⟩ := GrAt.cut gg (lo := 0) (hi := k) (Nat.zero_le _) hkl (L := none) (H := some (.int .i64 (k : Int))) (fun _ _ => bnd_none _ _) (fun _ hy => bnd_some (by omega))
    have w2 : GrAt σ w 2 (h.log.take k).length (ents (h.log.take k)) m := by
      rw [Nat.zero_mul, List.drop_zero, Nat.sub_zero, ents_take] at w2
      rw [List.length_take, Nat.min_eq_left hkl]; exact w2
    refine Som_of (vField0 _ _ _) (Som_of (ld x.b5 rfl) (Som_of (vField0 _ _ _) (Som_of (ld c3 rfl) ?_)))
    rw [hk]
    refine Som_of w1 (Som_of (vField0 _ _ _) (Eff_of (store1_of x.b5 (by simp [Hd.cells]) w2.sl.cells) ?_))
    have x2 : Nx σ1 n1 t5 (N - 5) (σ.upd t5 ⟨0, .ex, ({ h with log := h.log.take k } : Hd).cells w⟩) { h with log := h.log.take k } w :=
      x.upd ⟨m, w2, gn, g5, gl⟩ ⟨x.f.b0, x.f.b1, x.f.t1, fun e he => x.f.e e (List.mem_of_mem_take he), x.f.s, by show (h.log.take k).length ≤ _; rw [List.length_take]; have := x.f.n; omega⟩
    exact go _ _ _ w x2 hn (by simp [e3]) (by simp [e4]) (by simp [e5])
  · exact go _ σ h v x hn (by simp [e3]) (by simp [e4]) (by simp [e5])
theorem next0 (ht : Tab tab) (hb3 : σ1.blk t3 = some ⟨0, .ex, q.cells ev hc⟩) (hb4 : σ1.blk t4 = some ⟨0, .ex, zeroH⟩) (h3 : t3.nat < n1) (h4 : t4.nat < n1) (hev : EnAt σ1 ev q.es me) (hme : q.es ≠ [] → me < n1) (heb : ∀ e ∈ q.es, Bytes e.2) (hsb : Bytes q.s) {N : Nat} (hN : N ≤ 3300010) (h5N : 5 ≤ N)
    (hQ : ∀ h v σ' m, EnAt σ' v h.log m → n1 ≤ m → Nf h N → Keep (fun z => n1 ≤ z ∨ z = t4.nat) σ1 σ' → Q (h.val v) σ') (E : En) (x : Nx σ1 n1 t5 (N - 5) σ h v) (hn : n1 ≤ σ.next.nat) (e3 : E 3 = .ptr t3 0) (e4 : E 4 = .ptr t4 0) (e5 : E 5 = .ptr t5 0) : f34.J0 (WF tab) Q E σ := by
  refine f34.p0_of ?_
  unfold f34.p0
  rw [e3, e5]
  have c3 := x.old hb3 h3
  obtain ⟨m, gg, gn, g5, gl⟩ := x.g
  have go : ∀ (E : En) (σ : S) (h : Hd) (v : AVal), Nx σ1 n1 t5 (N - 5) σ h v → n1 ≤ σ.next.nat → E 3 = .ptr t3 0 → E 4 = .ptr t4 0 → E 5 = .ptr t5 0 → f34.J1 (WF tab) Q E σ := fun E σ h v x hn e3 e4 e5 => next1 ht hb3 hb4 h3 h4 hev hme heb hN h5N hQ E x hn e3 e4 e5
  refine Som_of (vField0 _ _ _) (Som_of (ld c3 rfl) ?_)
  refine within_v ht (by omega) (by omega) (by omega) fun k k0 k1 => ?_
  obtain ⟨k, rfl⟩ := Int.eq_ofNat_of_zero_le k0
  have kb : Keep0 σ (σ.bumpT 19) := Keep.bump x.k.ok 19
  have x1 := x.k0 kb
  have hn1 : n1 ≤ (σ.bumpT 19).next.nat := by have := kb.next; omega
  have c31 := x1.old hb3 h3
  obtain ⟨m1, gg1, gn1, g51, gl1⟩ := x1.g
  refine Som_of (bin_gtr _ _ _ _) ?_
  refine and5 (fun _ => rfl) (fun _ => vField0 _ _ _) (fun _ => ld x.b5 rfl) (fun _ => gg.sl.len) (fun _ => bin_leq _ _ _ _) fun _ _ _ _ _ => ?_
  generalize hσa : σ.bumpT 19 = σa at *
  refine WIf_bool (fun hb => ?_) (fun _ => ?_)
  · simp only [Bool.and_eq_true, decide_eq_true_eq] at hb
    have hk1 : 1 ≤ k := by omega
    have hkl : k ≤ h.log.length := by omega
    have hx : k - 1 < h.log.length := by omega
    have hg : h.log[k - 1]? = some h.log[k - 1] := List.getElem?_eq_getElem hx
    have hge := x.f.e _ (List.getElem_mem hx)
    generalize h.log[k - 1] = e at hg hge
    obtain ⟨p, o, g1, _, g3, _⟩ := EnAt.at gg1.sl hg
    refine Som_of (vField0 _ _ _) (Som_of (ld x1.b5 rfl) (Som_of (bin_add _ _ _ _) (Som_of (vField0 _ _ _) (Som_of (ld x1.b5 rfl) (Som_of (bin_sub _ _ _ _) ?_)))))
    have ek : IntKind.i64.wrap ((k : Int) - 1) = ((k - 1 : Nat) : Int) := by
      rw [wrap_i64_in (n := (k : Int) - 1) (by omega) (by omega)]; omega
    rw [ek]
    generalize IntKind.i64.wrap (h.base + (k : Int)) = nb
    refine Som_of g1 (Som_of (vField0 _ _ _) (Som_of g3 (Som_of (vField0 _ _ _) (Som_of (ld c31 rfl) (Som_of (vField0 _ _ _) ?_)))))
    refine Eff_of (store1_of x1.b5 (by simp [Hd.cells]) rfl) ?_
    have f1 : Nf ({ h with base := nb } : Hd) (N - 5) := ⟨x.f.b0, x.f.b1, x.f.t1, x.f.e, x.f.s, x.f.n⟩
    have x2 : Nx σ1 n1 t5 (N - 5) (σa.upd t5 ⟨0, .ex, ({ h with base := nb } : Hd).cells v⟩) { h with base := nb } v := x1.upd ⟨m1, gg1, gn1, g51, gl1⟩ f1
    have q2 : σa.upd t5 ⟨0, .ex, (h.cells v).set (0 + 2) (.int .i64 nb)⟩ = σa.upd t5 ⟨0, .ex, ({ h with base := nb } : Hd).cells v⟩ := rfl
    rw [q2]
    have nx2 : (σa.upd t5 ⟨0, .ex, ({ h with base := nb } : Hd).cells v⟩).next = σa.next := rfl
    generalize σa.upd t5 ⟨0, .ex, ({ h with base := nb } : Hd).cells v⟩ = σ2 at *
    obtain ⟨m2, gg2, gn2, g52, gl2⟩ := x2.g
    obtain ⟨p', o', y1, _, y3, _⟩ := EnAt.at (l := h.log) gg2.sl hg
    rw [g1] at y1; cases y1
    refine Sure_of (SameO_of y3 (same_int _ _)) (Sure_of (SameO_of (ld (x2.old hb3 h3) rfl) (same_ss _)) (Som_of (vField0 _ _ _) (Eff_of (store1_of x2.b5 (by simp [Hd.cells]) rfl) ?_)))
    have f2 : Nf ({ h with base := nb, bterm := e.1 } : Hd) (N - 5) := ⟨hge.1, hge.2.1, x.f.t1, x.f.e, x.f.s, x.f.n⟩
    have x3 : Nx σ1 n1 t5 (N - 5) (σ2.upd t5 ⟨0, .ex, ({ h with base := nb, bterm := e.1 } : Hd).cells v⟩) { h with base := nb, bterm := e.1 } v := x2.upd ⟨m2, gg2, gn2, g52, gl2⟩ f2
    have q3 : σ2.upd t5 ⟨0, .ex, (({ h with base := nb } : Hd).cells v).set (0 + 3) (.int .i64 e.1)⟩ = σ2.upd t5 ⟨0, .ex, ({ h with base := nb, bterm := e.1 } : Hd).cells v⟩ := rfl
    rw [q3]
    have nx3 : (σ2.upd t5 ⟨0, .ex, ({ h with base := nb, bterm := e.1 } : Hd).cells v⟩).next = σ2.next := rfl
    generalize σ2.upd t5 ⟨0, .ex, ({ h with base := nb, bterm := e.1 } : Hd).cells v⟩ = σ3 at *
    obtain ⟨m3, gg3, gn3, g53, gl3⟩ := x3.g
    refine Sure_of (SameO_of (ld (x3.old hb3 h3) rfl) (same_ss _)) (Som_of (vField0 _ _ _) (Eff_of (store1_of x3.b5 (by simp [Hd.cells]) rfl) ?_))
    have f3 : Nf ({ h with base := nb, bterm := e.1, snap := q.s } : Hd) (N - 5) := ⟨hge.1, hge.2.1, x.f.t1, x.f.e, hsb, x.f.n⟩
    have x4 : Nx σ1 n1 t5 (N - 5) (σ3.upd t5 ⟨0, .ex, ({ h with base := nb, bterm := e.1, snap := q.s } : Hd).cells v⟩) { h with base := nb, bterm := e.1, snap := q.s } v := x3.upd ⟨m3, gg3, gn3, g53, gl3⟩ f3
    have q4 : σ3.upd t5 ⟨0, .ex, (({ h with base := nb, bterm := e.1 } : Hd).cells v).set (0 + 4) (.str q.s)⟩ = σ3.upd t5 ⟨0, .ex, ({ h with base := nb, bterm := e.1, snap := q.s } : Hd).cells v⟩ := rfl
    rw [q4]
    have nx4 : (σ3.upd t5 ⟨0, .ex, ({ h with base := nb, bterm := e.1, snap := q.s } : Hd).cells v⟩).next = σ3.next := rfl
    generalize σ3.upd t5 ⟨0, .ex, ({ h with base := nb, bterm := e.1, snap := q.s } : Hd).cells v⟩ = σ4 at *
    obtain ⟨m4, gg4, gn4, g54, gl4⟩ := x4.g
    obtain ⟨w, w1, w2⟩ := GrAt.cut gg4 (lo := k) (hi := h.log.length) hkl (Nat.le_refl _) (L := some (.int .i64 (k : Int))) (H := none) (fun _ hy => bnd_some hkl) (fun _ _ => bnd_none _ _)
    have w2 : GrAt σ4 w 2 (h.log.drop k).length (ents (h.log.drop k)) m4 := by
      rw [show ents ({ h with base := nb, bterm := e.1, snap := q.s } : Hd).log = ents h.log from rfl, ents_drop, List.take_of_length_le (by rw [ents_len, List.length_drop]; omega)] at w2
      rw [List.length_drop]; exact w2
    refine Som_of (vField0 _ _ _) (Som_of (ld x4.b5 rfl) (Som_of w1 (Som_of (vField0 _ _ _) (Eff_of (store1_of x4.b5 (by simp [Hd.cells]) w2.sl.cells) ?_))))
    have f4 : Nf ({ h with base := nb, bterm := e.1, snap := q.s, log := h.log.drop k } : Hd) (N - 5) := ⟨hge.1, hge.2.1, x.f.t1, fun y hy => x.f.e y (List.mem_of_mem_drop hy), hsb, by show (h.log.drop k).length ≤ _; rw [List.length_drop]; have := x.f.n; omega⟩
    have x5 : Nx σ1 n1 t5 (N - 5) (σ4.upd t5 ⟨0, .ex, ({ h with base := nb, bterm := e.1, snap := q.s, log := h.log.drop k } : Hd).cells w⟩) { h with base := nb, bterm := e.1, snap := q.s, log := h.log.drop k } w := x4.upd ⟨m4, w2, gn4, g54, gl4⟩ f4
    exact go _ _ _ w x5 (by show n1 ≤ σ4.next.nat; rw [nx4, nx3, nx2]; exact hn1) (by simp [e3]) (by simp [e4]) (by simp [e5])
  · refine Som_of (bin_eql _ _ _ _) ?_
    refine andd3 (fun _ => vField0 _ _ _) (fun _ => ld x.b5 rfl) (fun _ => bin_gtr _ _ _ _) fun _ _ _ => ?_
    refine WIf_bool (fun hb => ?_) (fun _ => ?_)
    · simp only [Bool.and_eq_true, decide_eq_true_eq] at hb
      refine Som_of (vField0 _ _ _) (Som_of (ld x1.b5 rfl) (Som_of (vField0 _ _ _) (Som_of (ld x1.b5 rfl) (Som_of gg1.sl.len (Som_of (bin_add _ _ _ _) (Som_of (bin_add _ _ _ _) (Som_of (vField0 _ _ _) (Som_of (ld x1.b5 rfl) (Som_of (vField0 _ _ _) (Som_of (ld c31 rfl) (Som_of (vField0 _ _ _) ?_)))))))))))
      generalize IntKind.i64.wrap (IntKind.i64.wrap (h.base + (h.log.length : Int)) + 2) = nb
      refine Eff_of (store1_of x1.b5 (by simp [Hd.cells]) rfl) ?_
      have f1 : Nf ({ h with base := nb } : Hd) (N - 5) := ⟨x.f.b0, x.f.b1, x.f.t1, x.f.e, x.f.s, x.f.n⟩
      have x2 : Nx σ1 n1 t5 (N - 5) (σa.upd t5 ⟨0, .ex, ({ h with base := nb } : Hd).cells v⟩) { h with base := nb } v := x1.upd ⟨m1, gg1, gn1, g51, gl1⟩ f1
      have q2 : σa.upd t5 ⟨0, .ex, (h.cells v).set (0 + 2) (.int .i64 nb)⟩ = σa.upd t5 ⟨0, .ex, ({ h with base := nb } : Hd).cells v⟩ := rfl
      rw [q2]
      have nx2 : (σa.upd t5 ⟨0, .ex, ({ h with base := nb } : Hd).cells v⟩).next = σa.next := rfl
      generalize σa.upd t5 ⟨0, .ex, ({ h with base := nb } : Hd).cells v⟩ = σ2 at *
      obtain ⟨m2, gg2, gn2, g52, gl2⟩ := x2.g
      refine Sure_of (SameO_of (ld (x2.old hb3 h3) rfl) (same_ss _)) (Som_of (vField0 _ _ _) (Eff_of (store1_of x2.b5 (by simp [Hd.cells]) rfl) ?_))
      have hb01 : 0 ≤ h.term := by omega
      have f2 : Nf ({ h with base := nb, bterm := h.term } : Hd) (N - 5) := ⟨hb01, Int.le_refl _, x.f.t1, x.f.e, x.f.s, x.f.n⟩
      have x3 : Nx σ1 n1 t5 (N - 5) (σ2.upd t5 ⟨0, .ex, ({ h with base := nb, bterm := h.term } : Hd).cells v⟩) { h with base := nb, bterm := h.term } v := x2.upd ⟨m2, gg2, gn2, g52, gl2⟩ f2
      have q3 : σ2.upd t5 ⟨0, .ex, (({ h with base := nb } : Hd).cells v).set (0 + 3) (.int .i64 h.term)⟩ = σ2.upd t5 ⟨0, .ex, ({ h with base := nb, bterm := h.term } : Hd).cells v⟩ := rfl
      rw [q3]
      have nx3 : (σ2.upd t5 ⟨0, .ex, ({ h with base := nb, bterm := h.term } : Hd).cells v⟩).next = σ2.next := rfl
      generalize σ2.upd t5 ⟨0, .ex, ({ h with base := nb, bterm := h.term } : Hd).cells v⟩ = σ3 at *
      obtain ⟨m3, gg3, gn3, g53, gl3⟩ := x3.g
      refine Sure_of (SameO_of (ld (x3.old hb3 h3) rfl) (same_ss _)) (Som_of (vField0 _ _ _) (Eff_of (store1_of x3.b5 (by simp [Hd.cells]) rfl) ?_))
      have f3 : Nf ({ h with base := nb, bterm := h.term, snap := q.s } : Hd) (N - 5) := ⟨hb01, Int.le_refl _, x.f.t1, x.f.e, hsb, x.f.n⟩
      have x4 : Nx σ1 n1 t5 (N - 5) (σ3.upd t5 ⟨0, .ex, ({ h with base := nb, bterm := h.term, snap := q.s } : Hd).cells v⟩) { h with base := nb, bterm := h.term, snap := q.s } v := x3.upd ⟨m3, gg3, gn3, g53, gl3⟩ f3
      have q4 : σ3.upd t5 ⟨0, .ex, (({ h with base := nb, bterm := h.term } : Hd).cells v).set (0 + 4) (.str q.s)⟩ = σ3.upd t5 ⟨0, .ex, ({ h with base := nb, bterm := h.term, snap := q.s } : Hd).cells v⟩ := rfl
      rw [q4]
      have nx4 : (σ3.upd t5 ⟨0, .ex, ({ h with base := nb, bterm := h.term, snap := q.s } : Hd).cells v⟩).next = σ3.next := rfl
      generalize σ3.upd t5 ⟨0, .ex, ({ h with base := nb, bterm := h.term, snap := q.s } : Hd).cells v⟩ = σ4 at *
      obtain ⟨m4, gg4, gn4, g54, gl4⟩ := x4.g
      refine Som_of (vField0 _ _ _) (Eff_of (store1_of x4.b5 (by simp [Hd.cells]) rfl) ?_)
      have f4 : Nf ({ h with base := nb, bterm := h.term, snap := q.s, log := [] } : Hd) (N - 5) := ⟨hb01, Int.le_refl _, x.f.t1, fun y hy => (by cases hy), hsb, Nat.zero_le _⟩
      have x5 : Nx σ1 n1 t5 (N - 5) (σ4.upd t5 ⟨0, .ex, ({ h with base := nb, bterm := h.term, snap := q.s, log := [] } : Hd).cells .nsl⟩) { h with base := nb, bterm := h.term, snap := q.s, log := [] } .nsl := x4.upd ⟨m4, GrAt.nil σ4 2 m4, gn4, g54, gl4⟩ f4
      exact go _ _ _ .nsl x5 (by show n1 ≤ σ4.next.nat; rw [nx4, nx3, nx2]; exact hn1) (by simp [e3]) (by simp [e4]) (by simp [e5])
    · exact go _ σ h v x hn (by simp [e3]) (by simp [e4]) (by simp [e5])
end
end Go.Am
namespace Go.Am
theorem Tr.set_set' {α : Type} (p : Pos) (u v : Option α) (t : Tr α) : Tr.set p u (Tr.set p v t) = Tr.set p u t := by
  cases t with | mk lo hi => cases p with
    | big n =>
      simp only [Tr.set]
      congr 1
      funext x
      cases Nat.beq x n <;> rfl
    | mk i j k l => simp only [Tr.set, lo4, N16.g_put, N16.put_put]
section
variable {tab : Nat → Option PFn} {σ σ' σ0 : S} {Q : AVal → S → Prop} {G0 G G' M M' : Nat → Prop} {l d pm s p : Pos} {a w : Nat} {x x' : Me} {y y' : Sv} {lv lv' : AVal}
structure Beside (p : Pos) (σ : S) : Prop where
  f : Free p σ
  lt : p.nat < σ.next.nat
theorem Beside.bump (h : Beside p σ) (n : Nat) : Beside p (σ.bumpT n) := ⟨⟨h.f.heap, h.f.fams, h.f.lists, h.f.roots⟩, by rw [next_bump]; have := h.lt; omega⟩
theorem lay_bump {e : Nat} (cs : List AVal) (n : Nat) : (σ.lay p ⟨e, .ex, cs⟩).bumpT n = (σ.bumpT n).lay p ⟨e, .ex, cs⟩ := by rw [lay_eq, lay_eq]; rfl
theorem lay_upd {e : Nat} (cs cs' : List AVal) : (σ.lay p ⟨e, .ex, cs⟩).upd p ⟨e, .ex, cs'⟩ = σ.lay p ⟨e, .ex, cs'⟩ := by
  rw [lay_eq, lay_eq]
  unfold S.upd
  rw [Tr.set_set']
theorem blk_self {e : Nat} (cs : List AVal) : (σ.lay p ⟨e, .ex, cs⟩).blk p = some ⟨e, .ex, cs⟩ := by rw [blk_lay, if_pos rfl]
theorem beside_c {f e : Nat} {args : List AVal} {cs : List AVal} (hb : Beside p σ) (h : WF tab f args σ fun v σ' => Beside p σ' → Q v (σ'.lay p ⟨e, .ex, cs⟩)) : WF tab f args (σ.lay p ⟨e, .ex, cs⟩) Q := by
  obtain ⟨v, σ', hQ, n, hn⟩ := h
  have key : ∀ m, n ≤ m → Beside p σ' ∧ evalF tab m f args (σ.lay p ⟨e, .ex, cs⟩) = some (v, σ'.lay p ⟨e, .ex, cs⟩) := fun m hm => by
    obtain ⟨h1, h2⟩ := eval_fr tab m f args σ v σ' (hn m hm)
    obtain ⟨h3, h4⟩ := h2 p ⟨e, .ex, cs⟩ hb.lt hb.f (fun _ _ e => by cases e)
    exact ⟨⟨h3, by have := hb.lt; omega⟩, h4⟩
  exact ⟨v, _, hQ (key n (Nat.le_refl _)).1, n, fun m hm => (key m hm).2⟩
theorem beside_new (ho : Ok σ) (e : Nat) (cs : List AVal) : σ.new ⟨e, .ex, cs⟩ = (σ.bumpT 1).lay σ.next ⟨e, .ex, cs⟩ ∧ Beside σ.next (σ.bumpT 1) := by
  refine ⟨?_, ⟨?_, ho.fz _ (Nat.le_refl _), (ho.free _ (Nat.le_refl _)).2.2, fun b c r vb hb hk e => ?_⟩, by rw [next_bump]; omega⟩
  · rw [lay_eq]; rfl
  · exact (ho.free _ (Nat.le_refl _)).1
  · have h1 := ho.root b c r vb hb hk
    have h2 := ho.lt hb
    rw [e] at h1; omega
theorem sames_of : ∀ {l : List AVal}, (∀ c ∈ l, same1 c c = true) → sames l l = true
  | [], _ => rfl
  | c :: l, h => by
    show (match same1 c c with | true => sames l l | false => false) = true
    rw [h c List.mem_cons_self]
    exact sames_of fun x hx => h x (List.mem_cons_of_mem _ hx)
theorem same1_slv {v : AVal} {esz n m : Nat} {cs : List AVal} (h : SlAt σ v esz n cs m) : same1 v v = true := by
  have := same_sl v h
  obtain ⟨_, hv⟩ := h
  cases v <;> first | exact this | exact hv.elim
theorem hard_c (ht : Tab tab) (hs : SW σ0 G0 σ G M l d pm s a w x y lv) (hn : y.h.log.length ≤ 10000000) (hQ : ∀ v σ' m, EnAt σ' v y.h.log m → Keep0 σ σ' → σ.next.nat ≤ m → Q (y.h.val v) σ') : WF tab 32 [.ptr s 0] σ Q := by
  refine f32_wf ht.t32 ?_
  unfold f32
  have ho := hs.si.ok
  obtain ⟨k1, b1, n1⟩ := boxC ho zeroH
  refine Ala_of (show aAllocV zeroH = some (⟨0, .ex, zeroH⟩, fun p => .ptr p 0) from rfl) ?_
  have h1 := hs.k0 k1
  generalize ht2 : σ.next = t2 at *
  have hq2 : σ.next.nat = t2.nat := by rw [ht2]
  generalize σ.new ⟨0, .ex, zeroH⟩ = σ1 at *
  refine Som_of rfl (Som_of (vField0 _ _ _) (Som_of (ldN (n := 6) (xs := y.h.cells lv) h1.sb.blk (by simp [Sv.cells]) rfl) ?_))
  obtain ⟨m1, hen1, _⟩ := h1.en
  refine copy_c ht k1.ok hen1 hn fun v σ2 m g2 k2 l2 => ?_
  have b2 := k2.old _ _ b1 (fun h => h)
  refine Eff_of (storeN_of (xs := y.h.cells v) b2 rfl (by omega) (by simp)) ?_
  have e2 : (zeroH.take 0 ++ y.h.cells v ++ zeroH.drop (0 + 6)) = y.h.cells v := rfl
  rw [e2, ldN (n := 6) (xs := y.h.cells v) (blk_upd_same _ _) (by simp [Hd.cells]) rfl, Ret_1 rfl]
  have k3 : Keep (fun z => z = t2.nat) σ2 (σ2.upd t2 ⟨0, .ex, y.h.cells v⟩) := Keep.upd k2.ok b2 rfl
  exact hQ v _ m (SlAt.keep g2.sl (fun _ e => by omega) k3) ((k1.trans k2).then ho k3 fun z hz e => by omega) (by omega)
variable {q : Nask} {ev : AVal} {hc : List AVal} {me : Nat}
theorem next_c (ht : Tab tab) (ho : Ok σ) {old : Hd} {lo : AVal} {mo : Nat} (hlo : EnAt σ lo old.log mo) (hr : old.Right) (hosb : Bytes old.snap) (hoeb : ∀ e ∈ old.log, Bytes e.2) (hon : old.log.length ≤ 3300000) (hk : q.kind = 1) (hev : EnAt σ ev q.es me) (heb : ∀ e ∈ q.es, Bytes e.2) (hsb : Bytes q.s)
    (hQ : ∀ (h : Hd) v σ' m, EnAt σ' v h.log m → σ.next.nat ≤ m → Bytes h.snap → (∀ e ∈ h.log, Bytes e.2) → h.log.length ≤ 3300010 → Keep0 σ σ' → Q (h.val v) σ') : WF tab 34 [old.val lo, .agg (q.cells ev hc)] σ Q := by
  refine f34_wf ht.t34 ?_
  unfold f34
  obtain ⟨q1, k1, b2, n1⟩ := boxH ho old lo
  refine Ala_of q1 ?_
  generalize ht2 : σ.next = t2 at *
  have hq2 : σ.next.nat = t2.nat := by rw [ht2]
  generalize σ.new ⟨0, .ex, old.cells lo⟩ = σ1 at *
  obtain ⟨k2, b3, n2⟩ := boxC k1.ok (q.cells ev hc)
  refine Ala_of (show aBoxV (.agg (q.cells ev hc)) = some (⟨0, .ex, q.cells ev hc⟩, fun p => .ptr p 0) from rfl) ?_
  have b22 := k2.old _ _ b2 (fun h => h)
  generalize ht3 : σ1.next = t3 at *
  have hq3 : σ1.next.nat = t3.nat := by rw [ht3]
  generalize σ1.new ⟨0, .ex, q.cells ev hc⟩ = σ2 at *
  obtain ⟨k3, b4, n3⟩ := boxC k2.ok zeroH
  refine Ala_of (show aAllocV zeroH = some (⟨0, .ex, zeroH⟩, fun p => .ptr p 0) from rfl) ?_
  have b23 := k3.old _ _ b22 (fun h => h)
  have b33 := k3.old _ _ b3 (fun h => h)
  generalize ht4 : σ2.next = t4 at *
  have hq4 : σ2.next.nat = t4.nat := by rw [ht4]
  generalize σ2.new ⟨0, .ex, zeroH⟩ = σ3 at *
  have k03 := (k1.trans k2).trans k3
  have hev3 := hev.keep0 k03
  have hme : q.es ≠ [] → me < σ3.next.nat := fun hne => SlAt.own_lt hev3 k3.ok (by have := List.length_pos_iff.2 hne; omega)
  refine Som_of (vField0 _ _ _) (Som_of (ld b33 rfl) (Som_of (bin_eql _ _ _ _) (WIf_f (by rw [hk]; omega) ?_)))
  refine Som_of (ldN (n := 6) (xs := old.cells lo) b23 (by simp [Hd.cells]) rfl) ?_
  refine twin_c ht k3.ok (hlo.keep0 k03) (by omega) fun v σ4 m g4 k4 l4 l4' => ?_
  obtain ⟨k5, b5, n5⟩ := boxC k4.ok zeroH
  refine Ala_of (show aAllocV zeroH = some (⟨0, .ex, zeroH⟩, fun p => .ptr p 0) from rfl) ?_
  have g5 := g4.keep (M := fun _ => False) (fun h => h) k5
  have nn4 := k4.next
  generalize ht5 : σ4.next = t5 at *
  have hq5 : σ4.next.nat = t5.nat := by rw [ht5]
  generalize σ4.new ⟨0, .ex, zeroH⟩ = σ5 at *
  refine Eff_of (storeN_of (xs := old.cells v) b5 rfl (by omega) (by simp)) ?_
  have e2 : (zeroH.take 0 ++ old.cells v ++ zeroH.drop (0 + 6)) = old.cells v := rfl
  rw [e2]
  have k6 : Keep (fun z => z = t5.nat) σ5 (σ5.upd t5 ⟨0, .ex, old.cells v⟩) := Keep.upd k5.ok b5 rfl
  have r1 := hr.t0; have r2 := hr.t1; have r3 := hr.c0; have r4 := hr.c1
  have x6 : Nx σ3 σ3.next.nat t5 3300000 (σ5.upd t5 ⟨0, .ex, old.cells v⟩) old v := by
    refine ⟨((k4.trans k5).to).trans (k6.mono fun z e => by rw [e]; omega), blk_upd_same _ _, by omega, ⟨m, g5.keep (fun e => by omega) k6, l4, by omega, by show m < σ5.next.nat; omega⟩, ⟨r3, r4, by omega, fun e he => ?_, hosb, hon⟩⟩
    obtain ⟨_, z2, z3⟩ := rise_len hr.r e he
    exact ⟨by omega, z3, hoeb e he⟩
  have n6 : (σ5.upd t5 ⟨0, .ex, old.cells v⟩).next = σ5.next := rfl
  generalize σ5.upd t5 ⟨0, .ex, old.cells v⟩ = σ6 at *
  have kb : Keep0 σ6 (σ6.bumpT 8) := Keep.bump x6.k.ok 8
  have x7 := x6.k0 kb
  have nb := kb.next
  have hn7 : σ3.next.nat ≤ (σ6.bumpT 8).next.nat := by rw [n6] at nb; omega
  generalize σ6.bumpT 8 = σ7 at *
  have t3lt : t3.nat < σ3.next.nat := by omega
  have t2lt : t2.nat < σ3.next.nat := by omega
  have t4lt : t4.nat < σ3.next.nat := by omega
  refine Som_of (vField0 _ _ _) (Som_of (ld x7.b5 rfl) (Som_of (vField0 _ _ _) (Som_of (ld (x7.old b33 t3lt) rfl) ?_)))
  refine within_v ht (by omega) (by omega) (by omega) fun dt d0 d1 => ?_
  refine Sure_of (SameO_of (ld x7.b5 rfl) (same_int _ _)) (Som_of (bin_add _ _ _ _) (Som_of (vField0 _ _ _) ?_))
  rw [wrap_i64_in (n := old.term + dt) (by omega) (by omega)]
  refine Eff_of (store1_of x7.b5 (by simp [Hd.cells]) rfl) ?_
  have f7 : ∀ vt : Int, Nf ({ old with term := old.term + dt, vote := vt } : Hd) 3300000 := fun vt => ⟨r3, by show old.bterm ≤ old.term + dt; omega, by show old.term + dt ≤ _; omega, fun e he => by obtain ⟨a, b, c⟩ := x6.f.e e he; exact ⟨a, by show e.1 ≤ old.term + dt; omega, c⟩, hosb, hon⟩
  obtain ⟨m7, gg7, gn7, g57, gl7⟩ := x7.g
  have x8 : Nx σ3 σ3.next.nat t5 3300000 (σ7.upd t5 ⟨0, .ex, ({ old with term := old.term + dt } : Hd).cells v⟩) { old with term := old.term + dt } v := x7.upd ⟨m7, gg7, gn7, g57, gl7⟩ (f7 old.vote)
  have q8 : σ7.upd t5 ⟨0, .ex, (old.cells v).set (0 + 0) (.int .i64 (old.term + dt))⟩ = σ7.upd t5 ⟨0, .ex, ({ old with term := old.term + dt } : Hd).cells v⟩ := rfl
  rw [q8]
  have n8 : (σ7.upd t5 ⟨0, .ex, ({ old with term := old.term + dt } : Hd).cells v⟩).next = σ7.next := rfl
  generalize σ7.upd t5 ⟨0, .ex, ({ old with term := old.term + dt } : Hd).cells v⟩ = σ8 at *
  refine Som_of (vField0 _ _ _) (Som_of (ld (x8.old b33 t3lt) rfl) ?_)
  refine within_v ht (by omega) (by omega) (by omega) fun vt v0 v1 => ?_
  refine Som_of (vField0 _ _ _) (Eff_of (store1_of x8.b5 (by simp [Hd.cells]) rfl) ?_)
  obtain ⟨m8, gg8, gn8, g58, gl8⟩ := x8.g
  have x9 : Nx σ3 σ3.next.nat t5 3300000 (σ8.upd t5 ⟨0, .ex, ({ old with term := old.term + dt, vote := vt } : Hd).cells v⟩) { old with term := old.term + dt, vote := vt } v := x8.upd ⟨m8, gg8, gn8, g58, gl8⟩ (f7 vt)
  have q9 : σ8.upd t5 ⟨0, .ex, (({ old with term := old.term + dt } : Hd).cells v).set (0 + 1) (.int .i64 vt)⟩ = σ8.upd t5 ⟨0, .ex, ({ old with term := old.term + dt, vote := vt } : Hd).cells v⟩ := rfl
  rw [q9]
  have n9 : (σ8.upd t5 ⟨0, .ex, ({ old with term := old.term + dt, vote := vt } : Hd).cells v⟩).next = σ8.next := rfl
  generalize σ8.upd t5 ⟨0, .ex, ({ old with term := old.term + dt, vote := vt } : Hd).cells v⟩ = σ9 at *
  have hn9 : σ3.next.nat ≤ σ9.next.nat := by rw [n9, n8]; exact hn7
  have fin : ∀ (h : Hd) v σ' m, EnAt σ' v h.log m → σ3.next.nat ≤ m → Nf h 3300005 → Keep (fun z => σ3.next.nat ≤ z ∨ z = t4.nat) σ3 σ' → Q (h.val v) σ' := fun h v σ' m z1 z2 z3 z4 =>
    hQ h v σ' m z1 (by omega) z3.s (fun e he => (z3.e e he).2.2) (by have := z3.n; omega) (k03.then ho z4 fun z hz e => by rcases e with e | e <;> omega)
  have c2 := x9.old b23 t2lt
  refine Som_of (vField0 _ _ _) (Som_of (ld x9.b5 rfl) (Som_of (vField0 _ _ _) (Som_of (ld c2 rfl) (Som_of (bin_eql _ _ _ _) ?_))))
  refine andd3 (fun _ => vField0 _ _ _) (fun _ => ld c2 rfl) (fun _ => bin_neq _ _ _ _) fun _ _ _ => ?_
  refine WIf_bool (fun _ => ?_) (fun _ => ?_)
  · refine Som_of (vField0 _ _ _) (Som_of (ld c2 rfl) (Som_of (vField0 _ _ _) (Eff_of (store1_of x9.b5 (by simp [Hd.cells]) rfl) ?_)))
    obtain ⟨m9, gg9, gn9, g59, gl9⟩ := x9.g
    have x10 : Nx σ3 σ3.next.nat t5 3300000 (σ9.upd t5 ⟨0, .ex, ({ old with term := old.term + dt, vote := old.vote } : Hd).cells v⟩) { old with term := old.term + dt, vote := old.vote } v := x9.upd ⟨m9, gg9, gn9, g59, gl9⟩ (f7 old.vote)
    exact next0 ht b33 b4 t3lt t4lt hev3 hme heb hsb (N := 3300005) (by omega) (by omega) fin _ x10 hn9 (by simp) (by simp) (by simp)
  · exact next0 ht b33 b4 t3lt t4lt hev3 hme heb hsb (N := 3300005) (by omega) (by omega) fin _ x9 hn9 (by simp) (by simp) (by simp)
end
end Go.Am
namespace Go.Am
section
variable {tab : Nat → Option PFn} {σ σ' σ0 : S} {Q : AVal → S → Prop} {G M : Nat → Prop} {d p7 : Pos} {q : Nask} {ev : AVal} {hc : List AVal} {me : Nat}
theorem ask_same1 (hev : EnAt σ ev q.es me) (hsame : ∀ c ∈ hc, same1 c c = true) : same (.agg (q.cells ev hc)) (.agg (q.cells ev hc)) = true := by
  refine sames_of (l := q.cells ev hc) fun c h => ?_
  unfold Nask.cells at h
  simp only [List.mem_cons] at h
  rcases h with h | h | h | h | h | h | h | h | h | h
  all_goals first
    | (rw [h]; exact same_int .i64 _)
    | (rw [h]; exact same1_slv hev)
    | (rw [h]; exact same_ss _)
    | exact hsame c h
theorem others_end (ht : Tab tab) (ho0 : Ok σ0) (hev : EnAt σ0 ev q.es me) (heb : ∀ e ∈ q.es, Bytes e.2) (hsb : Bytes q.s) (hc6 : hc.length = 6) (hsame : ∀ c ∈ hc, same1 c c = true) (h30 : ∀ (σ1 : S) (Q1 : AVal → S → Prop), (∀ σ2, Q1 (.bool true) σ2) → WF tab 30 [] σ1 Q1) (hQ : ∀ σ', Q (.bool true) σ')
    {pv : AVal} {p : List Nat} {mp : Nat} (hp : BySl σ0 pv p mp) (hpb : Bytes p) (hpl : p.length ≤ 4611686018427387904) {file : Int} {at_ : Nat} (ha : at_ ≤ 5000) {E : En} {D : Dk} {pf ps : Pos} {fv sv wc : List AVal} {wv : AVal} {mw : Nat} (ho : Ok σ) (h : DkAt σ G d D pf ps fv sv wv wc mw) (hd : DkSt 0 D) (hk0 : Keep0 σ0 σ) (hG : ∀ x, G x → σ0.next.nat ≤ x) (b2 : Beside p7 σ)
    (e0 : E 0 = .int .i64 file) (e1 : E 1 = .int .i64 (at_ : Int)) (e2 : E 2 = pv) (e7 : E 7 = .ptr p7 0) (e9 : E 9 = .ptr d 0) : f8.J0 (WF tab) Q E (σ.lay p7 ⟨0, .ex, q.cells ev hc⟩) := by
  refine f8.p0_of ?_
  unfold f8.p0
  rw [e0, e1, e2, e7, e9]
  refine within_v ht (by omega) (by omega) (by omega) fun r hr1 hr2 => ?_
  obtain ⟨k, rfl⟩ := Int.eq_ofNat_of_zero_le hr1
  have hpp := hp.keep (M := fun _ => False) (fun _ h => h) hk0
  have hpm : p ≠ [] → ¬ G mp := fun hne hg => by
    have h1 := hG mp hg
    have h2 : mp < σ0.next.nat := SlAt.own_lt hp ho0 (by rw [Nat.mul_one]; exact fun e => hne (List.eq_nil_of_length_eq_zero e))
    omega
  have hmg := dM_G h
  refine beside_c b2 (Write_any ht ho h hd (by omega) (k := k) (a := at_) (by omega) hpp hpb hpm (by omega) hpl fun e σ2 G2 D2 fv2 wv2 wc2 mw2 hd2 h2 k2 g2 m2 b3 => ?_)
  have n0 := hk0.next
  have hk02 : Keep0 σ0 σ2 := hk0.then ho0 k2 fun x hx hm => by have := hG x (hmg x hm); omega
  have hG2 : ∀ x, G2 x → σ0.next.nat ≤ x := fun x hx => by
    by_cases hlt : x < σ.next.nat
    · exact hG x (g2.2 x hlt hx)
    · omega
  have dw2 : DW σ2 G2 (dM d pf ps mw2) d 1 := ⟨_, _, _, _, _, _, _, _, h2, hd2, rfl⟩
  refine beside_c b3 (sopen_c (σ0 := σ0) ht k2.ok dw2 hG2 hk02 ho0 (by omega) (fun e σ3 he b4 => ?_) (fun s l pm x σ3 G3 M3 a3 w3 y lv s3 hy hx hdead ha3 hw3 b4 => ?_))
  · refine Som_of rfl (Som_of rfl (Som_of (bin_neq _ _ _ _) ?_))
    rw [decide_eq_true he]
    refine Sn_of rfl (Sn_of rfl (Som_of (v := .bool true) rfl ?_))
    rw [WIf_true]
    refine Som_of (v := .bool true) rfl (Sq_of rfl rfl (Sq_of rfl (bin_neq _ _ _ _) ?_))
    rw [decide_eq_true he]
    refine Som_of (v := .bool true) rfl (GE_t rfl (h30 _ _ fun σ4 => ?_))
    refine Som_of rfl ?_
    rw [Ret_1 rfl]; exact hQ σ4
  · refine Som_of rfl (Som_of rfl (Som_of (bin_neq _ _ _ _) ?_))
    rw [decide_eq_false (show ¬ (0 : Int) ≠ 0 by omega)]
    refine Sq_of rfl rfl (Sq_of (v := .bool false) rfl rfl (Som_of (v := .bool false) rfl ?_))
    rw [WIf_false]
    have hyn := hy.n
    refine beside_c b4 (hard_c ht s3 (by omega) fun v4 σ4 m4 en4 k4 l4 b5 => ?_)
    have s4 := s3.k0 k4
    refine beside_c b5 (ref_right ht s4.si.ok en4 hy.r fun σ5 k5 b6 => ?_)
    have s5 := s4.k0 k5
    refine Som_of (un_not _) ?_
    rw [show (!true) = false from rfl, WIf_false]
    refine Som_of (vField0 _ _ _) (Eff_of (store1_of (blk_self _) (by simp [Nask.cells]) rfl) ?_)
    rw [lay_upd]
    have hset : (q.cells ev hc).set (0 + 0) (.int .i64 1) = ({ q with kind := 1 } : Nask).cells ev hc := rfl
    rw [hset, lay_bump]
    have kb : Keep0 σ5 (σ5.bumpT 6) := Keep.bump s5.si.ok 6
    have b7 := b6.bump 6
    have s6 := s5.k0 kb
    generalize σ5.bumpT 6 = σ6 at *
    have hq15 : (({ q with kind := 1 } : Nask).cells ev hc).length = 15 := by simp [Nask.cells, hc6]
    have ldq : ∀ σ : S, vLoadN 15 (.ptr p7 0) (σ.lay p7 ⟨0, .ex, ({ q with kind := 1 } : Nask).cells ev hc⟩) = some (.agg (({ q with kind := 1 } : Nask).cells ev hc)) := fun σ =>
      ldN (n := 15) (xs := ({ q with kind := 1 } : Nask).cells ev hc) (blk_self _) (by omega) (by rw [List.drop_zero, List.take_of_length_le (by omega)])
    refine Som_of (ldq σ6) ?_
    refine beside_c b7 (hard_c ht s6 (by omega) fun v7 σ7 m7 en7 k7 l7 b8 => ?_)
    have s7 := s6.k0 k7
    have hev0 : EnAt σ7 ev q.es me := SlAt.keep hev (fun _ h => h) s7.si
    refine Sure_of (SameO_of (ldq σ7) (ask_same1 (q := { q with kind := 1 }) hev0 hsame)) ?_
    refine beside_c b8 (next_c (q := { q with kind := 1 }) ht s7.si.ok en7 hy.r hy.sb hy.eb hyn rfl hev0 heb hsb fun h8 v8 σ8 m8 en8 l8 hsb8 heb8 hn8 k8 b9 => ?_)
    have s8 := s7.k0 k8
    have es8 : EsAt σ8 G3 v8 h8.log := EsAt.of en8 fun _ hg => by have := s7.lw.gl _ hg; omega
    refine beside_c b9 (Save_c ht ho0 s8 hx hy hsb8 heb8 hn8 es8 (by omega) (by omega) fun e9 x9 y9 lv9 hr9 hl9 σ9 G9 M9 s9 b10 => ?_)
    refine beside_c b10 (hard_c ht s9 hl9 fun v10 σ10 m10 en10 k10 l10 b11 => ?_)
    have s10 := s9.k0 k10
    refine beside_c b11 (ref_right ht s10.si.ok en10 hr9 fun σ11 k11 b12 => ?_)
    refine GE_t rfl (h30 _ _ fun σ12 => ?_)
    refine Som_of rfl ?_
    rw [Ret_1 rfl]; exact hQ σ12
theorem sothers_c (ht : Tab tab) (ho : Ok σ) {pv : AVal} {p : List Nat} {mp : Nat} (hp : BySl σ pv p mp) (hpb : Bytes p) (hpl : p.length ≤ 4611686018427387904) (hev : EnAt σ ev q.es me) (heb : ∀ e ∈ q.es, Bytes e.2) (hsb : Bytes q.s) (hc6 : hc.length = 6) (hsame : ∀ c ∈ hc, same1 c c = true) {file at_ : Int}
    (h30 : ∀ (σ1 : S) (Q1 : AVal → S → Prop), (∀ σ2, Q1 (.bool true) σ2) → WF tab 30 [] σ1 Q1) (hQ : ∀ σ', Q (.bool true) σ') : WF tab 8 [.int .i64 file, .int .i64 at_, pv, .agg (q.cells ev hc)] σ Q := by
  refine f8_wf ht.t8 ?_
  unfold f8
  refine Ala_of (show aBoxV (.agg (q.cells ev hc)) = some (⟨0, .ex, q.cells ev hc⟩, fun p => .ptr p 0) from rfl) ?_
  obtain ⟨n1, b1⟩ := beside_new ho 0 (q.cells ev hc)
  rw [n1]
  have k0 : Keep0 σ (σ.bumpT 1) := Keep.bump ho 1
  have ho1 := k0.ok
  have hp1 := hp.keep (M := fun _ => False) (fun _ h => h) k0
  have hev1 := hev.keep0 k0
  generalize σ.next = p7 at *
  generalize σ.bumpT 1 = σ1 at *
  refine beside_c b1 (new_c (G := fun _ => False) (q := 1048576) ht ho1 (fun _ h => h.elim) (by omega) fun d pf ps σ2 hd k2 c1 c2 c3 b2 => ?_)
  refine Som_of rfl (Som_of rfl (Som_of (bin_neq _ _ _ _) ?_))
  rw [decide_eq_false (show ¬ (0 : Int) ≠ 0 by omega)]
  refine Sq_of rfl rfl (Sq_of (v := .bool false) rfl rfl (Som_of (v := .bool false) rfl ?_))
  rw [WIf_false]
  have hG : ∀ x, (False ∨ x = d.nat ∨ x = pf.nat ∨ x = ps.nat ∨ x = σ1.next.nat) → σ1.next.nat ≤ x := fun x hx => by
    rcases hx with hx | hx | hx | hx | hx
    · exact hx.elim
    all_goals omega
  have hst : DkSt 0 (Dk.fresh 1048576) := ⟨DkOk.fresh (by omega), Nat.le_refl 0⟩
  have main : ∀ (a : Nat) (E : En), a ≤ 5000 → E 0 = .int .i64 file → E 1 = .int .i64 (a : Int) → E 2 = pv → E 7 = .ptr p7 0 → E 9 = .ptr d 0 → f8.J0 (WF tab) Q E (σ2.lay p7 ⟨0, .ex, q.cells ev hc⟩) := fun a E ha e0 e1 e2 e7 e9 =>
    others_end ht ho1 hev1 heb hsb hc6 hsame h30 hQ hp1 hpb hpl ha k2.ok hd hst k2 hG b2 e0 e1 e2 e7 e9
  refine Som_of (bin_lss _ _ _ _) ?_
  by_cases hneg : at_ < 0
  · rw [decide_eq_true hneg]
    refine Som_of rfl (Som_of rfl (Som_of (v := .bool true) rfl ?_))
    rw [WIf_true]
    exact main 0 _ (by omega) (by simp) (by simp) (by simp) (by simp) (by simp)
  · rw [decide_eq_false hneg]
    refine Sq_of rfl rfl (Sq_of rfl (bin_gtr _ _ _ _) (Som_of rfl ?_))
    refine WIf_dec (fun hbig => ?_) (fun hok => ?_)
    · exact main 0 _ (by omega) (by simp) (by simp) (by simp) (by simp) (by simp)
    · obtain ⟨a, haa⟩ := Int.eq_ofNat_of_zero_le (show 0 ≤ at_ by omega)
      exact main a _ (by omega) (by simp) (by simp [haa]) (by simp) (by simp) (by simp)
end
end Go.Am
