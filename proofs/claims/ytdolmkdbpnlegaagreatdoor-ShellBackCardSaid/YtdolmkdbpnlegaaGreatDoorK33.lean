/-
  Memory under conditions: making, storing, copying, appending. Conditions: none.
-/
import Derived.Test.YtdolmkdbpnlegaaGreatDoorK32
namespace Go.Am
section
variable {σ σ' σ2 : S} {M N : Nat → Prop}

def GrAt (σ : S) (v : AVal) (esz n : Nat) (cs : List AVal) (m : Nat) : Prop := cs.length = n * esz ∧ match v with
  | .nsl => n = 0
  | .sl b o len cap => len = n ∧ n ≤ cap ∧ ∃ blk, σ.blk b = some blk ∧ ow b blk = m ∧ o + cap * esz ≤ blk.cells.length ∧ (blk.cells.drop o).take (n * esz) = cs ∧ blk.kind = .ex
  | .slu b o len z => z = esz ∧ len = n ∧ ∃ blk, σ.blk b = some blk ∧ ow b blk = m ∧ o + n * esz ≤ blk.cells.length ∧ (blk.cells.drop o).take (n * esz) = cs ∧ ∃ r vb, blk.kind = .fam r vb
  | _ => False
theorem GrAt.sl {v : AVal} {esz n m : Nat} {cs : List AVal} (h : GrAt σ v esz n cs m) : SlAt σ v esz n cs m := by
  obtain ⟨h0, h⟩ := h
  refine ⟨h0, ?_⟩
  cases v with
  | nsl => exact h
  | sl b o len cap =>
    obtain ⟨h1, h2, blk, h3, h4, h5, h6, _⟩ := h
    exact ⟨h1, h2, fun _ => ⟨blk, h3, h4, by have := Nat.mul_le_mul_right esz h2; omega, h6⟩⟩
  | slu b o len z =>
    obtain ⟨h1, h2, blk, h3, h4, h5, h6, _⟩ := h
    exact ⟨h1, h2, fun _ => ⟨blk, h3, h4, h5, h6⟩⟩
  | _ => exact h.elim
theorem GrAt.keep {v : AVal} {esz n m : Nat} {cs : List AVal} (h : GrAt σ v esz n cs m) (hm : ¬ M m) (k : Keep M σ σ') : GrAt σ' v esz n cs m := by
  obtain ⟨h0, h⟩ := h
  refine ⟨h0, ?_⟩
  cases v with
  | nsl => exact h
  | sl b o len cap =>
    obtain ⟨h1, h2, blk, h3, h4, h5⟩ := h
    exact ⟨h1, h2, blk, k.old b blk h3 (by rw [h4]; exact hm), h4, h5⟩
  | slu b o len z =>
    obtain ⟨h1, h2, blk, h3, h4, h5⟩ := h
    exact ⟨h1, h2, blk, k.old b blk h3 (by rw [h4]; exact hm), h4, h5⟩
  | _ => exact h.elim
theorem GrAt.nil (σ : S) (esz m : Nat) : GrAt σ .nsl esz 0 [] m := ⟨by simp, rfl⟩
theorem SlAt.nil (σ : S) (esz m : Nat) : SlAt σ .nsl esz 0 [] m := ⟨by simp, rfl⟩

theorem lenN_len (l : List AVal) : lenN l = l.length := lenN_eq l
theorem repN_len (n : Nat) (z : List AVal) : (repN n z).length = n * z.length := by
  induction n with
  | zero => simp [repN]
  | succ n ih => simp [repN, ih, Nat.add_mul]; omega
theorem mkLen_of {bytes l c : Nat} (h : l ≤ c) (hb : c * bytes ≤ 1099511627776) (hc : c ≤ 1099511627776) : mkLen bytes (.int .i64 (l : Int)) (.int .i64 (c : Int)) = some (l, c) := by
  show test (Nat.ble l c && (Nat.ble (c * bytes) 1099511627776 && Nat.ble c 1099511627776)) (some (l, c)) = _
  rw [Nat.ble_eq_true_of_le h, Nat.ble_eq_true_of_le hb, Nat.ble_eq_true_of_le hc]; rfl
theorem make_of {esz bytes l c : Nat} {z : List AVal} (h : l ≤ c) (hb : c * bytes ≤ 1099511627776) (hc : c ≤ 1099511627776) :
    aMakeV esz bytes z (.int .i64 (l : Int)) (.int .i64 (c : Int)) = some (⟨esz, .ex, repN c z⟩, fun p => .sl p 0 l c) := by
  unfold aMakeV; rw [mkLen_of h hb hc]; rfl
theorem made_gr (esz l c : Nat) {z : List AVal} (hz : z.length = esz) (h : l ≤ c) : GrAt (σ.new ⟨esz, .ex, repN c z⟩) (.sl σ.next 0 l c) esz l ((repN c z).take (l * esz)) σ.next.nat := by
  have hl : (repN c z).length = c * esz := by rw [repN_len, hz]
  have := Nat.mul_le_mul_right esz h
  refine ⟨by rw [List.length_take, hl]; omega, rfl, h, ⟨esz, .ex, repN c z⟩, ?_, rfl, ?_, ?_, rfl⟩
  · rw [blk_new, if_pos rfl]; rfl
  · show 0 + c * esz ≤ (repN c z).length; omega
  · show ((repN c z).drop 0).take (l * esz) = _; rw [List.drop_zero]
theorem repN_one (c : Nat) (v : AVal) : repN c [v] = List.replicate c v := by
  induction c with
  | zero => rfl
  | succ c ih => show [v] ++ repN c [v] = _; rw [ih]; rfl
theorem made1 (a : AVal) (h : cellsOf a = some [a]) (z : AVal) : aSliceV 1 [z] 1 [(0, 1, a)] = some (⟨1, .ex, [a]⟩, fun p => .sl p 0 1 1) := by
  unfold aSliceV fillA
  rw [h]
  show andThen (test (Nat.beq 1 1) (andThen (putN 0 [a] (repN 1 [z])) fun cells => fillA cells [])) _ = _
  rfl
theorem made1_sl (a : AVal) : SlAt (σ.new ⟨1, .ex, [a]⟩) (.sl σ.next 0 1 1) 1 1 [a] σ.next.nat := by
  refine ⟨rfl, rfl, Nat.le_refl _, fun _ => ⟨⟨1, .ex, [a]⟩, by rw [blk_new, if_pos rfl]; rfl, rfl, ?_, rfl⟩⟩
  show 0 + 1 * 1 ≤ 1; omega

theorem putN_of {o : Nat} {new cs : List AVal} (h : o + new.length ≤ cs.length) : putN o new cs = some (cs.take o ++ new ++ cs.drop (o + new.length)) := putN_eq.2 ⟨h, rfl⟩
theorem put_ex {b : Pos} {o e : Nat} {new cs : List AVal} (hb : σ.blk b = some ⟨e, .ex, cs⟩) (h : o + new.length ≤ cs.length) :
    σ.put b o new = some (σ.upd b ⟨e, .ex, cs.take o ++ new ++ cs.drop (o + new.length)⟩) := by
  unfold S.put
  rw [show Tr.get b σ.heap = some ⟨e, .ex, cs⟩ from hb, andThen_s]
  show putEx σ b o new e cs = _
  obtain ⟨hp, nx, fm, ms⟩ := σ
  unfold putEx
  simp only [putN_of h, andThen_s, Tr.setK_eq]; rfl
theorem set_eq_splice (cs : List AVal) (o : Nat) (v : AVal) (h : o < cs.length) : cs.take o ++ [v] ++ cs.drop (o + 1) = cs.set o v := by
  rw [List.set_eq_take_append_cons_drop, if_pos h]; simp
theorem store1_of {b : Pos} {o e : Nat} {v : AVal} {cs : List AVal} (hb : σ.blk b = some ⟨e, .ex, cs⟩) (h : o < cs.length) (hv : cellsOf v = some [v]) :
    storeW 1 (.ptr b o) v σ = some (.undef, σ.upd b ⟨e, .ex, cs.set o v⟩) := by
  unfold storeW
  rw [hv, andThen_s]
  show test (Nat.beq 1 1) (andThen (σ.put b o [v]) fun σ => some (AVal.undef, σ)) = _
  rw [put_ex hb (by show o + 1 ≤ cs.length; omega)]
  show some (AVal.undef, _) = _
  rw [show ([v] : List AVal).length = 1 from rfl, set_eq_splice cs o v h]
theorem storeN_of {b : Pos} {o e n : Nat} {xs cs : List AVal} (hb : σ.blk b = some ⟨e, .ex, cs⟩) (hn : xs.length = n) (hp : 0 < n) (h : o + n ≤ cs.length) :
    storeW n (.ptr b o) (.agg xs) σ = some (.undef, σ.upd b ⟨e, .ex, cs.take o ++ xs ++ cs.drop (o + n)⟩) := by
  unfold storeW
  obtain ⟨k, rfl⟩ : ∃ k, n = k + 1 := ⟨n - 1, by omega⟩
  show test (Nat.beq (lenN xs) (k + 1)) (andThen (σ.put b o xs) fun σ => some (AVal.undef, σ)) = _
  rw [lenN_eq, hn, Nat.beq_refl, test_tt, put_ex hb (by omega), andThen_s, hn]

theorem minN_le {a b : Nat} (h : a ≤ b) : minN a b = a := by unfold minN; rw [Nat.ble_eq_true_of_le h]
theorem copy_of {esz k n cap o e : Nat} {b : Pos} {s : AVal} {cs new : List AVal} (hk : slLen s = some k) (hr : slRead esz k s σ = some new) (hl : new.length = k * esz) (hkn : k ≤ n)
    (hb : σ.blk b = some ⟨e, .ex, cs⟩) (ho : o + n * esz ≤ cs.length) :
    copyA esz (.sl b o n cap) s σ = some (.int .i64 (k : Int), if k = 0 then σ else σ.upd b ⟨e, .ex, cs.take o ++ new ++ cs.drop (o + k * esz)⟩) := by
  unfold copyA
  rw [hk, andThen_s, show slLen (.sl b o n cap) = some n from rfl, andThen_s, show isSl (.sl b o n cap) = true from rfl, test_tt, minN_le hkn]
  cases k with
  | zero => rfl
  | succ k =>
    have hle := Nat.mul_le_mul_right esz hkn
    simp only [forceNat_eq, hr, andThen_s]
    show andThen (σ.put b o new) _ = _
    rw [put_ex hb (by omega), andThen_s, if_neg (by omega), hl]; rfl

theorem kill_keep {fr : Nat} {but : Pos} {l : List Pos} {h : Tr Blk} {q : Pos} (hq : q ∉ l) : Tr.get q (kill fr but l h) = Tr.get q h := by
  induction l generalizing h with
  | nil => rfl
  | cons p l ih =>
    have hq' : q ∉ l := fun hm => hq (List.mem_cons_of_mem _ hm)
    have hne : q ≠ p := fun e => hq (by rw [e]; exact List.mem_cons_self)
    unfold kill
    cases p.beq but with
    | true => exact ih hq'
    | false =>
      simp only
      split
      · split
        · split
          · exact ih hq'
          · rw [ih hq', Tr.get_set_ne hne]
        · exact ih hq'
      · exact ih hq'
theorem named_fam (esz : Nat) (p : Pos) (cells : List AVal) : Blk.named ⟨esz, .fam Pos.first 0, cells⟩ p = ⟨esz, .fam p 0, cells⟩ := rfl
theorem newFam_of (σ : S) (tg esz n : Nat) (cells : List AVal) : newFam σ tg esz n cells = some (.slu σ.next 0 n esz, σ.new ⟨tg, .fam Pos.first 0, cells⟩) := by
  unfold newFam
  rw [allocR_eq, alloc_new, andThen_s]
  simp only [forceNat_eq]
theorem newFam_gr (ho : Ok σ) {tg esz n : Nat} {cells : List AVal} (hl : cells.length = n * esz) :
    GrAt (σ.new ⟨tg, .fam Pos.first 0, cells⟩) (.slu σ.next 0 n esz) esz n cells σ.next.nat ∧ Keep M σ (σ.new ⟨tg, .fam Pos.first 0, cells⟩) := by
  refine ⟨⟨hl, rfl, rfl, ⟨tg, .fam σ.next 0, cells⟩, ?_, rfl, ?_, ?_, σ.next, 0, rfl⟩, Keep.new ho _⟩
  · rw [blk_new, if_pos rfl]; rfl
  · show 0 + n * esz ≤ cells.length; omega
  · show (cells.drop 0).take (n * esz) = cells; rw [List.drop_zero, ← hl, List.take_length]
noncomputable def S.grow (σ : S) (esz : Nat) (root : Pos) (vb fr : Nat) (cells : List AVal) : S :=
  S.prune ⟨Tr.set σ.next (some ⟨esz, .fam root vb, cells⟩) (kill fr σ.next (famOf root σ.fams) σ.heap), σ.next.succ, famsOf (.fam root vb) σ.next σ.fams, σ.maps⟩ root
theorem appFam_of {tg esz o len n e vb : Nat} {x : AVal} {root : Pos} {cs new : List AVal} (hl : o + len * esz ≤ cs.length) (hr : slRead esz n x σ = some new) :
    appFam tg esz o len n x σ ⟨e, .fam root vb, cs⟩ = some (.slu σ.next 0 (len + n) esz, σ.grow (tgOf e tg esz) root (vb + o) (vb + o + len * esz - 1) ((cs.drop o).take (len * esz) ++ new)) := by
  unfold appFam
  have ht : takeN (len * esz) (dropN o cs) = some ((cs.drop o).take (len * esz)) := takeN_eq.2 ⟨by rw [dropN_eq, List.length_drop]; omega, by rw [dropN_eq]⟩
  simp only
  rw [ht, andThen_s, hr, andThen_s, appL_eq, killK_eq, layFam_unf]
  simp only [forceNat_eq, lay_eq, Pos.nextK_succ, andThen_s, pruneV_eq]
  rfl
theorem blk_grow (esz : Nat) (root : Pos) (vb fr : Nat) (cells : List AVal) (q : Pos) :
    (σ.grow esz root vb fr cells).blk q = if q = σ.next then some ⟨esz, .fam root vb, cells⟩ else Tr.get q (kill fr σ.next (famOf root σ.fams) σ.heap) := Tr.get_set _ _ _ _
theorem fam_grow {esz : Nat} {root : Pos} {vb fr : Nat} {cells : List AVal} {q r : Pos} (h : q ∈ (σ.grow esz root vb fr cells).fam r) : q ∈ σ.fam r ∨ (q = σ.next ∧ r = root) := by
  have h : q ∈ famOf r (S.prune ⟨Tr.set σ.next (some ⟨esz, .fam root vb, cells⟩) (kill fr σ.next (famOf root σ.fams) σ.heap), σ.next.succ, famsOf (.fam root vb) σ.next σ.fams, σ.maps⟩ root).fams := h
  rw [famOf_prune] at h
  have h' : q ∈ famOf r (famsOf (.fam root vb) σ.next σ.fams) := by
    by_cases e : r = root
    · rw [if_pos e] at h; rw [e]; exact (mem_alive.1 h).1
    · rw [if_neg e] at h; exact h
  rcases fam_famsOf h' with h1 | ⟨h1, vb', hk⟩
  · exact .inl h1
  · cases hk; exact .inr ⟨h1, rfl⟩
theorem Keep.grow (ho : Ok σ) {esz : Nat} {root : Pos} {vb fr : Nat} {cells : List AVal} (hr : root.nat < σ.next.nat) : Keep (fun x => x = root.nat) σ (σ.grow esz root vb fr cells) := by
  have hn : (σ.grow esz root vb fr cells).next = σ.next.succ := rfl
  have sub : ∀ q d, (σ.grow esz root vb fr cells).blk q = some d → q ≠ σ.next → σ.blk q = some d := fun q d hd hne => by
    rw [blk_grow, if_neg hne] at hd; exact (get_kill hd).1
  have un : ∀ q : Pos, q ≠ σ.next → Unused σ q → Unused (σ.grow esz root vb fr cells) q := fun q hne hu => by
    refine ⟨by rw [blk_grow, if_neg hne]; exact get_kill_none hu.1, hu.2.1, fun r hm => ?_⟩
    rcases fam_grow hm with h | ⟨h, _⟩
    · exact hu.2.2 r h
    · exact hne h
  refine ⟨⟨fun q hq => ?_, fun r q d hq hd => ?_, fun q d r vb' hd hk => ?_, fun q hq => ?_⟩, by rw [hn, succ_nat]; omega, fun q d hd hm => ?_, fun q hq hu => un q (fun e => by subst e; omega) hu, fun _ _ h _ => h⟩
  · rw [hn, succ_nat] at hq
    exact un q (fun e => by subst e; omega) (ho.free q (by omega))
  · by_cases e : q = σ.next
    · subst e
      rw [blk_grow, if_pos rfl] at hd; cases hd
      rcases fam_grow hq with h | ⟨_, h⟩
      · exact absurd h ((ho.free σ.next (Nat.le_refl _)).2.2 r)
      · exact ⟨vb, by rw [h]⟩
    · rcases fam_grow hq with h | ⟨h, _⟩
      · exact ho.memb r q d h (sub q d hd e)
      · exact absurd h e
  · by_cases e : q = σ.next
    · subst e
      rw [blk_grow, if_pos rfl] at hd; cases hd; cases hk; omega
    · exact ho.root q d r vb' (sub q d hd e) hk
  · rw [hn, succ_nat] at hq
    show Tr.get q (Tr.set root (some _) (famsOf (.fam root vb) σ.next σ.fams)) = none
    rw [Tr.get_set_ne (fun e => by subst e; omega)]
    exact fz_famsOf (fun r vb hk e => by cases hk; subst e; omega) (ho.fz q (by omega))
  · have hne : q ≠ σ.next := fun e => by subst e; have := ho.lt hd; omega
    rw [blk_grow, if_neg hne, kill_keep]
    · exact hd
    · intro hq
      obtain ⟨vb', hk⟩ := ho.memb root q d hq hd
      exact hm (by unfold ow; rw [hk])
theorem fits_of {n b : Nat} (h : n * b ≤ 1099511627776) : fits n b = true := Nat.ble_eq_true_of_le h
theorem append_gr (ho : Ok σ) {tg esz bytes n k m : Nat} {s x : AVal} {cs new : List AVal} (hg : GrAt σ s esz n cs m) (hk : slLen x = some k) (hr : slRead esz k x σ = some new) (hl : new.length = k * esz)
    (hf : (n + k) * bytes ≤ 1099511627776) :
    ∃ v σ' m', appendA tg esz bytes s x σ = some (v, σ') ∧ GrAt σ' v esz (n + k) (cs ++ new) m' ∧ Keep (fun y => y = m) σ σ' ∧ (m' = m ∨ (σ.next.nat ≤ m' ∧ m' < σ'.next.nat)) := by
  have hlen : (cs ++ new).length = (n + k) * esz := by rw [List.length_append, hg.1, hl, Nat.add_mul]
  unfold appendA
  rw [hk, andThen_s]
  cases k with
  | zero =>
    simp only [hg.sl.isSl, test_tt]
    refine ⟨s, σ, m, rfl, ?_, Keep.refl ho, .inl rfl⟩
    have : new = [] := List.eq_nil_of_length_eq_zero (by omega)
    subst this; simpa using hg
  | succ k =>
    simp only [forceNat_eq]
    obtain ⟨h0, h⟩ := hg
    cases s with
    | nsl =>
      have h : n = 0 := h
      subst h
      have : cs = [] := List.eq_nil_of_length_eq_zero (by omega)
      subst this
      obtain ⟨g1, g2⟩ := newFam_gr (M := fun y => y = m) ho (tg := tg) (esz := esz) (n := 0 + (k + 1)) (cells := new) (by simpa using hlen)
      refine ⟨_, _, _, ?_, by simpa using g1, g2, .inr ⟨Nat.le_refl _, by show σ.next.nat < σ.next.succ.nat; rw [succ_nat]; omega⟩⟩
      show test (fits (k + 1) bytes) (andThen (slRead esz (k + 1) x σ) fun new => newFam σ tg esz (k + 1) new) = _
      rw [fits_of (by simpa using hf), test_tt, hr, andThen_s, newFam_of]
    | sl b o len cap =>
      obtain ⟨h1, h2, blk, hb, hm, hc, hcs, hx⟩ := h
      subst h1
      obtain ⟨e, kind, cells⟩ := blk
      have hx : kind = .ex := hx
      subst hx
      have hc : o + cap * esz ≤ cells.length := hc
      have hcs : (cells.drop o).take (len * esz) = cs := hcs
      show ∃ v σ' m', appSl tg esz bytes b o len cap (k + 1) x σ = some (v, σ') ∧ _
      unfold appSl
      cases hb2 : Nat.ble (len + (k + 1)) cap with
      | true =>
        have hle := Nat.le_of_ble_eq_true hb2
        have hmul := Nat.mul_le_mul_right esz hle
        rw [Nat.add_mul] at hmul
        simp only [hr, andThen_s]
        rw [put_ex hb (by rw [hl]; omega), andThen_s]
        simp only [forceNat_eq]
        have hkeep := Keep.upd ho hb (c := ⟨e, .ex, cells.take (o + len * esz) ++ new ++ cells.drop (o + len * esz + new.length)⟩) rfl
        rw [hm] at hkeep
        refine ⟨_, _, m, rfl, ⟨hlen, rfl, hle, _, blk_upd_same _ _, hm, ?_, ?_, rfl⟩, hkeep, .inl rfl⟩
        · simp only [List.length_append, List.length_take, List.length_drop]; omega
        · rw [← hcs, Nat.add_mul, ← hl]
          rw [List.append_assoc, List.drop_append_of_le_length (by rw [List.length_take]; omega), List.drop_take, show o + len * esz - o = len * esz by omega]
          have hlc : ((cells.drop o).take (len * esz)).length = len * esz := by rw [List.length_take, List.length_drop]; omega
          rw [show len * esz + new.length = ((cells.drop o).take (len * esz)).length + new.length by rw [hlc], List.take_length_add_append, List.take_append_of_le_length (Nat.le_refl _), List.take_length]
      | false =>
        have hle := Nat.mul_le_mul_right esz h2
        simp only [fits_of hf, test_tt]
        rw [rdN_of (fun _ => hb) (fun _ => by show o + len * esz ≤ cells.length; omega), andThen_s, hr, andThen_s, appL_eq, newFam_of]
        show ∃ v σ' m', some _ = some (v, σ') ∧ _
        rw [show (({ esz := e, kind := Kind.ex, cells := cells } : Blk).cells.drop o).take (len * esz) = cs from hcs]
        obtain ⟨g1, g2⟩ := newFam_gr (M := fun y => y = m) ho (tg := tg) (esz := esz) (n := len + (k + 1)) (cells := cs ++ new) hlen
        exact ⟨_, _, _, rfl, g1, g2, .inr ⟨Nat.le_refl _, by show σ.next.nat < σ.next.succ.nat; rw [succ_nat]; omega⟩⟩
    | slu b o len z =>
      obtain ⟨rfl, rfl, blk, hb, hm, hc, hcs, r, vb, hx⟩ := h
      obtain ⟨e, kind, cells⟩ := blk
      have hx : kind = .fam r vb := hx
      subst hx
      have hc : o + len * z ≤ cells.length := hc
      have hcs : (cells.drop o).take (len * z) = cs := hcs
      have hm : r.nat = m := hm
      have hrlt : r.nat < σ.next.nat := by have := ho.root b _ r vb hb rfl; have := ho.lt hb; omega
      have hkeep := Keep.grow ho (esz := tgOf e tg z) (root := r) (vb := vb + o) (fr := vb + o + len * z - 1) (cells := cs ++ new) hrlt
      rw [hm] at hkeep
      refine ⟨.slu σ.next 0 (len + (k + 1)) z, _, m, ?_, ⟨hlen, rfl, rfl, ⟨tgOf e tg z, .fam r (vb + o), cs ++ new⟩, ?_, hm, ?_, ?_, r, vb + o, rfl⟩, hkeep, .inl rfl⟩
      · show test (Nat.beq z z) (appSlu tg z bytes b o len (k + 1) x σ) = _
        rw [Nat.beq_refl, test_tt]
        unfold appSlu
        rw [fits_of hf, test_tt, show Tr.get b σ.heap = some ⟨e, .fam r vb, cells⟩ from hb, andThen_s, appFam_of hc hr, hcs]
      · rw [blk_grow, if_pos rfl]
      · show 0 + (len + (k + 1)) * z ≤ (cs ++ new).length; omega
      · show ((cs ++ new).drop 0).take _ = _; rw [List.drop_zero, ← hlen, List.take_length]
    | _ => exact h.elim
end
end Go.Am
