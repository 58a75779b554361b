/-
  The keys of a map, in order: what the evaluator has of such a function, out of its contract. Conditions: none.
-/
import Derived.Test.YthnjfpfcnpefaaaGreatKC2
import Derived.MapKept
namespace Go.Am
open Go.RowKit (Below)
open Go.MapKept (Stamped)
section
variable {w0 w w' : World} {m : Mp} {σ : S}
theorem WR.later (h : WR w0 m σ w) (hb : Below w.heap.size w w') : WR w0 m σ w' := by
  have hold : ∀ {c : Nat} {o : Obj}, w.heap[c]? = some o → w'.heap[c]? = some o := fun {c o} hc => by
    have : c < w.heap.size := (Array.getElem?_eq_some_iff.1 hc).1
    rw [hb.block c this]; exact hc
  refine ⟨h.below.trans (hb.mono h.below.size), fun b mi hm => ⟨(h.dom b mi hm).1, Nat.lt_of_lt_of_le (h.dom b mi hm).2 hb.size⟩, fun b blk hB => ?_, h.alias, h.fam, h.tidy, fun b mb hB => ?_, h.mpi⟩
  · obtain ⟨mi, h1, ⟨cells, ty, frz, g1, g2⟩⟩ := h.blk b blk hB
    exact ⟨mi, h1, ⟨cells, ty, frz, hold g1, g2⟩⟩
  · obtain ⟨mi, h1, h2, o, g1, g2⟩ := h.mp b mb hB
    exact ⟨mi, h1, h2, o, hold g1, g2⟩
/-- A block that has come since. -/
theorem WR.addAt (hW0 : WR w0 m σ w) (hB : Below w.heap.size w w') {g : Nat} (hg : w.heap.size ≤ g) {p nx : Pos} (hp : m p = none) (hpn : p.nat < nx.nat) (hnx : σ.next.nat ≤ nx.nat) {blk : Blk} (hroot : ∀ root vb, blk.kind = .fam root vb → root.nat < nx.nat) {xs : Array Value} {ty : TypeId} {frz : Nat × Nat} (hfrz : ∀ i, i < xs.size → ¬ (frz.1 ≤ i ∧ i < frz.2))
    (hb : w'.heap[g]? = some (.cells xs ty frz)) (hc : ∀ (i : Nat) (v : AVal), blk.cells[i]? = some v → ∃ x, xs[i]? = some x ∧ SR m v x) : WR w0 (upd m p ⟨g, 0, xs.size⟩) (σ.layAt p blk nx) w' := by
  have hW := hW0.later hB
  have hle := upd_le hp ⟨g, 0, xs.size⟩
  have hgl : g < w'.heap.size := (Array.getElem?_eq_some_iff.1 hb).1
  refine ⟨hW.below, ?_, ?_, ?_, ?_, hW.tidy.layAt hnx hpn hroot, ?_, ?_⟩
  · intro q mi hq
    by_cases e : q = p
    · subst e; rw [upd_same] at hq; cases hq; exact ⟨hpn, hgl⟩
    · rw [upd_ne m e] at hq
      have := hW.dom q mi hq
      refine ⟨?_, this.2⟩
      show q.nat < nx.nat; omega
  · intro q bq hq
    have hq' : (if q = p then some blk else Tr.get q σ.heap) = some bq := by rw [← Tr.get_set]; exact hq
    by_cases e : q = p
    · rw [if_pos e] at hq'; cases hq'; subst e
      refine ⟨_, upd_same _ _ _, ⟨xs, ty, frz, hb, rfl, ?_, .inr ⟨?_, hfrz⟩⟩⟩
      · intro i v hv
        obtain ⟨x, hx, hs⟩ := hc i v hv
        exact ⟨x, by simpa using hx, hs.mono hle⟩
      · have := hW0.below.size
        show w0.heap.size ≤ g
        omega
    · rw [if_neg e] at hq'
      obtain ⟨mi, k1, k2⟩ := hW.blk q bq hq'
      refine ⟨mi, by rw [upd_ne m e]; exact k1, ?_⟩
      obtain ⟨c, t, f, r1, r2, r3, r4⟩ := k2.cells
      refine ⟨c, t, f, r1, r2, ?_, r4⟩
      intro i v hv
      obtain ⟨x, hx, hs⟩ := r3 i v hv
      exact ⟨x, hx, hs.mono hle⟩
  · intro q q' bq bq' mi1 mi2 hq hq' e1 e2 hne hcc
    have g1 : (if q = p then some blk else Tr.get q σ.heap) = some bq := by rw [← Tr.get_set]; exact hq
    have g2 : (if q' = p then some blk else Tr.get q' σ.heap) = some bq' := by rw [← Tr.get_set]; exact hq'
    by_cases c1 : q = p
    · subst c1
      have c2 : q' ≠ q := Ne.symm hne
      rw [upd_same] at e1; cases e1
      rw [upd_ne m c2] at e2
      have := (hW0.dom q' mi2 e2).2
      simp only at hcc; omega
    · rw [upd_ne m c1] at e1
      rw [if_neg c1] at g1
      by_cases c2 : q' = p
      · subst c2
        rw [upd_same] at e2; cases e2
        have := (hW0.dom q mi1 e1).2
        simp only at hcc; omega
      · rw [upd_ne m c2] at e2
        rw [if_neg c2] at g2
        exact hW.alias q q' bq bq' mi1 mi2 g1 g2 e1 e2 hne hcc
  · intro q bq root vb hq hk
    have g1 : (if q = p then some blk else Tr.get q σ.heap) = some bq := by rw [← Tr.get_set]; exact hq
    show q ∈ famOf root (famsOf blk.kind p σ.fams)
    by_cases c1 : q = p
    · rw [if_pos c1] at g1; cases g1; subst c1; rw [hk]; exact mem_famsOf_self
    · rw [if_neg c1] at g1; exact mem_famsOf (hW.fam q bq root vb g1 hk)
  · intro q mb hq
    obtain ⟨mi, k1, k2⟩ := hW.mp q mb hq
    obtain ⟨es, r1, r2⟩ := k2.obj
    exact ⟨mi, hle q mi k1, k2.own, es, r1, r2.mono hle⟩
  · intro q q' mb mb' mi mi' hq hq' e1 e2 hc
    obtain ⟨mi1, k1, _⟩ := hW.mp q mb hq
    obtain ⟨mi2, k2, _⟩ := hW.mp q' mb' hq'
    rw [hle q mi1 k1] at e1; cases e1
    rw [hle q' mi2 k2] at e2; cases e2
    exact hW.mpi q q' mb mb' _ _ hq hq' k1 k2 hc
end
/-- A slice of numbers that has come since. -/
def IntRow (B : Nat) (w : World) (v : Value) (zs : List Int) : Prop := (zs = [] ∧ v = .slice none 0 0) ∨
  ∃ (g cap : Nat) (cur : Array Value) (ty : TypeId) (frz : Nat × Nat), zs ≠ [] ∧ v = .slice (some ⟨g, 0, none⟩) zs.length cap ∧ B ≤ g ∧ w.heap[g]? = some (.cells cur ty frz) ∧ zs.length ≤ cap ∧ cur.size = cap ∧ (∀ i, i < cur.size → ¬ (frz.1 ≤ i ∧ i < frz.2)) ∧ cur.toList.take zs.length = zs.map (Value.int .i64)
def One2 (z : Int) : Prop := z = 1 ∨ z = 2
/-- What is asked of the function: the keys of the map that stands there, in order. -/
structure KeysCall (P : Program) (f : Nat) : Prop where
  enters : ∀ args w, (callFunc f args).run P w = .ok (.enter f args) w
  map : ∀ (a o : Nat) (w : World) (c : Nat) (es : Array MapEntry) (clock : Nat) (zs : List Int), w.cell? ⟨a, o, none⟩ = some (.map (some c)) → w.heap[c]? = some (.map es clock) → Stamped es clock → es.toList.map (·.key) = zs.map (Value.int .i64) → zs.Nodup →
    (∀ z ∈ zs, One2 z) → Calls P f #[.pointer (some ⟨a, o, none⟩)] w fun e w' => ∃ v, e = .returned v ∧ IntRow w.heap.size w' v (zs.mergeSort fun x y => decide (x ≤ y)) ∧ Below w.heap.size w w'
theorem insI_ok {n : Int} : ∀ {l l' : List Int}, insI n l = some l' → l.Pairwise (· < ·) → l'.Perm (n :: l) ∧ l'.Pairwise (· < ·)
  | [], l', h, _ => by cases h; exact ⟨.refl _, by simp⟩
  | k :: l, l', h, hp => by
    unfold insI at h
    split at h
    · rename_i h1
      cases h
      have h1 := ilt_iff.1 h1
      refine ⟨.refl _, List.pairwise_cons.2 ⟨fun x hx => ?_, hp⟩⟩
      rcases List.mem_cons.1 hx with e | hx
      · rw [e]; exact h1
      · have := (List.pairwise_cons.1 hp).1 x hx; omega
    · split at h
      · rename_i h1 h2
        have h2 := ilt_iff.1 h2
        obtain ⟨r, hr, h⟩ := andThen_eq.1 h
        cases h
        obtain ⟨i1, i2⟩ := insI_ok hr (List.pairwise_cons.1 hp).2
        refine ⟨(List.Perm.cons k i1).trans (List.Perm.swap n k l), List.pairwise_cons.2 ⟨fun x hx => ?_, i2⟩⟩
        rcases List.mem_cons.1 (i1.mem_iff.1 hx) with e | hx
        · rw [e]; exact h2
        · exact (List.pairwise_cons.1 hp).1 x hx
      · cases h
theorem V1.int {m : Mp} {q : IntKind} {n : Int} {x : Value} (h : V1 m (.int q n) x) : x = .int q n := by
  cases h with | one _ _ h => cases h; rfl
theorem keysI_ok {m : Mp} {es : MEs} {r : List MapEntry} (h : ERs m es r) : ∀ {l : List Int}, keysI es = some l → ∃ zs : List Int, r.map (·.key) = zs.map (Value.int .i64) ∧ l.Perm zs ∧ l.Pairwise (· < ·) := by
  induction h with
  | nil => intro l h; cases h; exact ⟨[], rfl, .refl _, .nil⟩
  | cons b k v e es r hb hk hv _ ih =>
    intro l h
    unfold keysI at h
    split at h
    · rename_i q n
      split at h
      · obtain ⟨l1, h1, h2⟩ := andThen_eq.1 h
        obtain ⟨zs, i1, i2, i3⟩ := ih h1
        obtain ⟨j1, j2⟩ := insI_ok h2 i3
        exact ⟨n :: zs, by simp [i1, hk.int], j1.trans (i2.cons n), j2⟩
      · cases h
    · cases h
theorem not_true {b : Bool} (h : (not b) = true) : b = false := by cases b <;> first | rfl | cases h
theorem bornIn_ok {m : Mp} {b : Nat} {es : MEs} {r : List MapEntry} (h : ERs m es r) : bornIn b es = false → ∀ x ∈ r, x.born ≠ b := by
  induction h with
  | nil => intro _ x hx; cases hx
  | cons b' k v e es r hb hk hv _ ih =>
    intro h x hx
    unfold bornIn at h
    split at h
    · cases h
    · rename_i hn
      rcases List.mem_cons.1 hx with e1 | hx
      · rw [e1, hb]
        intro e2
        rw [e2] at hn
        simp at hn
      · exact ih h x hx
theorem stampOk_ok {m : Mp} {clock : Nat} {es : MEs} {r : List MapEntry} (h : ERs m es r) : stampOk clock es = true → (∀ x ∈ r, x.born < clock) ∧ (r.map (·.born)).Nodup ∧ ∀ x ∈ r, ∃ z : Int, x.key = .int .i64 z ∧ One2 z := by
  induction h with
  | nil => intro _; exact ⟨fun x hx => (by cases hx), List.nodup_nil, fun x hx => (by cases hx)⟩
  | cons b k v e es r hb hk hv hr ih =>
    intro h
    simp only [stampOk, Bool.and_eq_true] at h
    obtain ⟨h1, h2, h3, h4⟩ := h
    have h1 := Nat.le_of_ble_eq_true h1
    obtain ⟨i1, i2, i3⟩ := ih h4
    refine ⟨fun x hx => ?_, ?_, fun x hx => ?_⟩
    · rcases List.mem_cons.1 hx with e1 | hx
      · rw [e1, hb]; omega
      · exact i1 x hx
    · rw [List.map_cons]
      refine List.nodup_cons.2 ⟨fun hm => ?_, i2⟩
      obtain ⟨x, hx, e1⟩ := List.mem_map.1 hm
      exact bornIn_ok hr (not_true h2) x hx (by rw [e1, hb])
    · rcases List.mem_cons.1 hx with e1 | hx
      · rw [e1]
        unfold keyInI at h3
        split at h3
        · rename_i q n
          split at h3
          · refine ⟨n, hk.int, ?_⟩
            split at h3
            · simp only [Bool.or_eq_true] at h3
              rcases h3 with h3 | h3
              · have := Nat.eq_of_beq_eq_true h3; subst this; exact .inl rfl
              · have := Nat.eq_of_beq_eq_true h3; subst this; exact .inr rfl
            · cases h3
          · cases h3
        · cases h3
      · exact i3 x hx
theorem sort_eq {l zs : List Int} (hp : l.Perm zs) (hs : l.Pairwise (· < ·)) : (zs.mergeSort fun x y => decide (x ≤ y)) = l := by
  have tr : ∀ a b c : Int, decide (a ≤ b) = true → decide (b ≤ c) = true → decide (a ≤ c) = true := fun a b c h1 h2 => by simp only [decide_eq_true_eq] at *; omega
  have to : ∀ a b : Int, (decide (a ≤ b) || decide (b ≤ a)) = true := fun a b => by simp only [Bool.or_eq_true, decide_eq_true_eq]; omega
  refine List.Perm.eq_of_pairwise (le := fun a b => decide (a ≤ b) = true) (fun a b _ _ h1 h2 => ?_) (List.pairwise_mergeSort tr to zs) (hs.imp fun {a b} h => by simp only [decide_eq_true_eq]; omega) ((List.mergeSort_perm zs _).trans hp.symm)
  simp only [decide_eq_true_eq] at h1 h2
  omega
theorem intsA_get : ∀ {l : List Int} {i : Nat} {v : AVal}, (intsA l)[i]? = some v → ∃ z, l[i]? = some z ∧ v = .int .i64 z
  | [], i, v, h => by simp [intsA] at h
  | n :: l, 0, v, h => by simp [intsA] at h; exact ⟨n, by simp, h.symm⟩
  | n :: l, i + 1, v, h => by
    simp only [intsA, List.getElem?_cons_succ] at h
    obtain ⟨z, h1, h2⟩ := intsA_get h
    exact ⟨z, by simpa using h1, h2⟩
theorem lenI_eq (l : List Int) : lenI l = l.length := by induction l <;> simp [lenI, *]
theorem VR.mapv {m : Mp} {b : Pos} {x : Value} (h : SR m (.map b) x) : ∃ mi, m b = some mi ∧ x = .map (some mi.c) := by
  cases h with | map _ mi h => exact ⟨mi, h, rfl⟩
/-- THE KEYS, IN ORDER. -/
theorem hook_keys {P : Program} {f : Nat} (hc : KeysCall P f) : HookOk P f (.keys 0) := by
  intro w0 call fuel args σ v σ' w m xs hv hW hx
  change runKeys 0 args σ = some (v, σ') at hv
  unfold runKeys at hv
  cases args with
  | nil => cases hv
  | cons u r =>
  cases r with
  | cons _ _ => cases hv
  | nil =>
  simp only at hv
  obtain ⟨p, h1, hv2⟩ := andThen_eq.1 hv
  obtain ⟨y, h2, hv3⟩ := andThen_eq.1 hv2
  clear hv hv2
  unfold vFieldAddr at h1
  split at h1
  · rename_i b o
    unfold outPtr at h1
    simp only [forceNat_eq] at h1
    cases h1
    obtain ⟨mi, hm, hxs⟩ : ∃ mi, m b = some mi ∧ xs = #[.pointer (some ⟨mi.c, mi.base + o, none⟩)] := by
      cases hxl : xs.toList with
      | nil => rw [hxl] at hx; cases hx
      | cons x l =>
        rw [hxl] at hx
        cases hx with
        | cons _ _ _ _ g1 g2 =>
          cases g2
          obtain ⟨mi, hm, rfl⟩ := g1.ptr
          exact ⟨mi, hm, by apply Array.ext'; rw [hxl]⟩
    subst hxs
    refine ⟨hc.enters _ _, ?_⟩
    unfold vLoad1 at h2
    simp only at h2
    obtain ⟨blk, hb, hn⟩ := andThen_eq.1 h2
    rw [nthV_eq, Nat.add_zero] at hn
    obtain ⟨z, hz, hs⟩ := hW.cell hb hm hn
    have hnil : ∀ w', Below w.heap.size w w' → DoneE w0 m σ .nsl σ (.returned (.slice none 0 0)) w' := fun w' hB => ⟨m, SR.nsl.vr, Ext.refl _ _, hW.later hB⟩
    unfold keysM at hv3
    split at hv3
    · rename_i b'
      obtain ⟨mi', hm', rfl⟩ := VR.mapv hs
      obtain ⟨mb, hmb, hv⟩ := andThen_eq.1 hv3
      obtain ⟨ht, hv⟩ := test_eq.1 hv
      simp only [Bool.and_eq_true] at ht
      obtain ⟨ht1, ht2⟩ := ht
      obtain ⟨l, hl, hv⟩ := andThen_eq.1 hv
      obtain ⟨mi2, hm2, _, o2, ho2, hMO⟩ := hW.mp b' mb hmb
      rw [hm'] at hm2; cases hm2
      cases hMO with
      | none last seen hb0 he => rw [he] at ht2; simp [stampOk, keyInI] at ht2
      | iter last b2 mj ss hb0 hmj he => rw [he] at ht2; simp [stampOk, keyInI] at ht2
      | map es hr hg =>
        obtain ⟨zs, k1, k2, k3⟩ := keysI_ok hr hl
        obtain ⟨s1, s2, s3⟩ := stampOk_ok hr ht2
        have hnd : zs.Nodup := (k2.nodup_iff).1 (k3.imp fun {a b} h => by omega)
        have hst : Stamped es mb.clock := ⟨s1, s2, by
          rw [k1]
          exact List.pairwise_map.2 (hnd.imp fun {a b} h e => h (by cases e; rfl))⟩
        have hrange : ∀ z ∈ zs, One2 z := fun z hz => by
          have : Value.int .i64 z ∈ es.toList.map (·.key) := by rw [k1]; exact List.mem_map.2 ⟨z, hz, rfl⟩
          obtain ⟨x, hx, e⟩ := List.mem_map.1 this
          obtain ⟨z', e', h3⟩ := s3 x hx
          rw [e] at e'; cases e'
          exact h3
        have hsort := sort_eq k2 k3
        refine Calls.mono (hc.map _ _ w _ es mb.clock zs hz ho2 hst k1 hnd hrange) fun e w' ⟨u, e1, e2, e4⟩ => ?_
        subst e1
        rw [hsort] at e2
        cases l with
        | nil =>
          cases hv
          rcases e2 with ⟨_, e5⟩ | ⟨g, cap, cur, ty, frz, e5, _⟩
          · rw [e5]; exact hnil w' e4
          · exact absurd rfl e5
        | cons n l =>
          obtain ⟨nx, n1, rfl, rfl⟩ := newFam_eq hv
          rcases e2 with ⟨e5, _⟩ | ⟨g, cap, cur, ty, frz, _, rfl, g1, g2, g3, g4, g5, g6⟩
          · cases e5
          have hlt := next_lt n1
          have hfr : m σ.next = none := hW.fresh (Nat.le_refl _)
          refine ⟨_, ?_, ⟨upd_le hfr ⟨g, 0, cur.size⟩, fun b hb => upd_below (Nat.le_refl _) hb, Nat.le_of_lt hlt⟩, hW.addAt e4 g1 hfr hlt (Nat.le_of_lt hlt) (fun root vb hk => by cases hk; exact hlt) g5 g2 fun i v hv => ?_⟩
          · rw [lenI_eq]
            exact (SR.slu σ.next 0 (n :: l).length 1 _ _ cap (upd_same _ _ _) g3 (.inl rfl) (.inr (by simp only; omega))).vr
          · obtain ⟨z, hz1, rfl⟩ := intsA_get hv
            have hi : i < (n :: l).length := (List.getElem?_eq_some_iff.1 hz1).1
            refine ⟨.int .i64 z, ?_, SR.int _ _⟩
            have : (cur.toList.take (n :: l).length)[i]? = ((n :: l).map (Value.int .i64))[i]? := by rw [g6]
            rw [List.getElem?_take_of_lt hi, List.getElem?_map, hz1, Array.getElem?_toList] at this
            exact this
    · cases hv3
  · cases h1
/-! The library's sort at no more than two numbers: by the evaluator. -/
noncomputable def sortS (ss : List Int) : S := S.start.layAt Pos.first ⟨1, .fam Pos.first 0, intsA ss⟩ Pos.first.succ
noncomputable def isBlk (o : Option Blk) (b : Blk) : Bool := match o with
  | some x => blkB x b
  | none => false
noncomputable def sortTest (tab : Nat → Option PFn) (n f : Nat) (ss ts : List Int) : Bool := outIs (evalF tab n f [.slu Pos.first 0 (lenI ss) 1] (sortS ss)) (fun v σ => eqT v (.tup []) && isBlk (Tr.get Pos.first σ.heap) ⟨1, .fam Pos.first 0, intsA ts⟩)
noncomputable def sortNil (tab : Nat → Option PFn) (n f : Nat) : Bool := outIs (evalF tab n f [.nsl] S.start) (fun v _ => eqT v (.tup []))
noncomputable def sortsTest (n f : Nat) (t : Tr PFn) : Bool := sortNil (tabT t) n f && (sortTest (tabT t) n f [1] [1] && (sortTest (tabT t) n f [2] [2] && (sortTest (tabT t) n f [1, 2] [1, 2] && sortTest (tabT t) n f [2, 1] [1, 2])))
theorem outIs_iff {o : Option (AVal × S)} {k : AVal → S → Bool} (h : outIs o k = true) : ∃ v σ, o = some (v, σ) ∧ k v σ = true := by
  unfold outIs at h
  split at h
  · rename_i x
    exact ⟨x.1, x.2, rfl, h⟩
  · cases h
section
variable {P : Program} {tab : Nat → Option PFn} {n f : Nat}
theorem sort_nil (hm : P.follows .mixedOrders = true) (hT : ∀ f p, tab f = some p → tabOf P f = some p ∨ HookOk P f p) (h : sortNil tab n f = true) (w : World) : Calls P f #[.slice none 0 0] w fun e w' => e = .returned (.tuple #[]) ∧ Below w.heap.size w w' := by
  obtain ⟨v, σ, h1, h2⟩ := outIs_iff h
  have e := eqT_to h2
  subst e
  obtain ⟨_, h3⟩ := sound (w0 := w) hm hT n f _ _ _ σ w (fun _ => none) #[.slice none 0 0] h1 (WR.start w) (.cons _ _ _ _ SR.nsl.vr .nil)
  refine Calls.mono h3 fun e w' he => ?_
  cases e with
  | returned x =>
    obtain ⟨m', g1, _, g3⟩ := he
    obtain ⟨ys, rfl, hys⟩ := g1.tup'
    have : ys = #[] := by
      cases hl : ys.toList with
      | nil => apply Array.ext'; rw [hl]
      | cons x l => rw [hl] at hys; cases hys
    subst this
    exact ⟨rfl, g3.below⟩
  | panicked c => exact he.elim
  | outgrown => exact he.elim
theorem sort_row (hm : P.follows .mixedOrders = true) (hT : ∀ f p, tab f = some p → tabOf P f = some p ∨ HookOk P f p) {ss ts : List Int} (hl : ts.length = ss.length) (hne : ts ≠ []) (h : sortTest tab n f ss ts = true) {w0 w : World} (hB : Below w0.heap.size w0 w) {g cap : Nat} (hg : w0.heap.size ≤ g) {cur : Array Value} {ty : TypeId}
    (hb : w.heap[g]? = some (.cells cur ty (0, 0))) (hc : ss.length ≤ cap) (hs : cur.size = cap) (ht : cur.toList.take ss.length = ss.map (Value.int .i64)) :
    Calls P f #[.slice (some ⟨g, 0, none⟩) ss.length cap] w fun e w' => e = .returned (.tuple #[]) ∧ IntRow w0.heap.size w' (.slice (some ⟨g, 0, none⟩) ts.length cap) ts ∧ Below w0.heap.size w0 w' := by
  obtain ⟨v, σ, h1, h2⟩ := outIs_iff h
  simp only [Bool.and_eq_true] at h2
  have e := eqT_to h2.1
  subst e
  have hW : WR w0 (upd (fun _ => none) Pos.first ⟨g, 0, cur.size⟩) (sortS ss) w := by
    refine (WR.start w0).addAt hB hg rfl ?_ ?_ (fun root vb hk => ?_) (fun i _ h => by simp only at h; omega) hb fun i v hv => ?_
    · rw [Pos.succ_nat]; omega
    · rw [Pos.succ_nat]; show Pos.first.nat ≤ _; omega
    · cases hk; rw [Pos.succ_nat]; omega
    · obtain ⟨z, hz1, rfl⟩ := intsA_get hv
      have hi : i < ss.length := (List.getElem?_eq_some_iff.1 hz1).1
      refine ⟨.int .i64 z, ?_, SR.int _ _⟩
      have : (cur.toList.take ss.length)[i]? = (ss.map (Value.int .i64))[i]? := by rw [ht]
      rw [List.getElem?_take_of_lt hi, List.getElem?_map, hz1, Array.getElem?_toList] at this
      exact this
  have hx : VRs (upd (fun _ => none) Pos.first ⟨g, 0, cur.size⟩) [.slu Pos.first 0 (lenI ss) 1] [.slice (some ⟨g, 0, none⟩) ss.length cap] := by
    rw [lenI_eq]
    exact .cons _ _ _ _ (SR.slu Pos.first 0 ss.length 1 ⟨g, 0, cur.size⟩ _ cap (upd_same _ _ _) hc (.inl rfl) (.inr (by simp only; omega))).vr .nil
  obtain ⟨_, h3⟩ := sound (w0 := w0) hm hT n f _ _ _ σ w _ #[.slice (some ⟨g, 0, none⟩) ss.length cap] h1 hW hx
  refine Calls.mono h3 fun e w' he => ?_
  cases e with
  | returned x =>
    obtain ⟨m', g1, g2, g3⟩ := he
    obtain ⟨ys, rfl, hys⟩ := g1.tup'
    have : ys = #[] := by
      cases hl : ys.toList with
      | nil => apply Array.ext'; rw [hl]
      | cons x l => rw [hl] at hys; cases hys
    subst this
    refine ⟨rfl, .inr ?_, g3.below⟩
    have hblk := h2.2
    unfold isBlk at hblk
    split at hblk
    · rename_i x hx1
      have e := blkB_to hblk
      subst e
      have hm' : m' Pos.first = some ⟨g, 0, cur.size⟩ := by
        rw [g2.old Pos.first (by show Pos.first.nat < Pos.first.succ.nat; rw [Pos.succ_nat]; omega)]
        exact upd_same _ _ _
      obtain ⟨cells, ty', frz, k1, k2, k3, k4⟩ := (g3.get hx1 hm').cells
      rcases k4 with k4 | ⟨_, k4⟩
      · cases k4
      refine ⟨g, cap, cells, ty', frz, hne, rfl, hg, k1, by rw [hl]; exact hc, by rw [k2]; exact hs, fun i hi => k4 i (by rw [← k2]; exact hi), ?_⟩
      apply List.ext_getElem?
      intro i
      by_cases hi : i < ts.length
      · rw [List.getElem?_take_of_lt hi, List.getElem?_map]
        have hv : (intsA ts)[i]? = some (.int .i64 ts[i]) := by
          have : ∀ (l : List Int) (i : Nat), (intsA l)[i]? = (l[i]?).map (AVal.int .i64) := by
            intro l
            induction l with
            | nil => intro i; simp [intsA]
            | cons a l ih => intro i; cases i <;> simp [intsA, ih]
          rw [this]; simp [hi]
        obtain ⟨x, hx2, hsx⟩ := k3 i _ hv
        have : x = .int .i64 ts[i] := by cases hsx; rfl
        rw [this] at hx2
        rw [Array.getElem?_toList]
        simp only [Nat.zero_add] at hx2
        rw [hx2]; simp [hi]
      · rw [List.getElem?_take_eq_none (by omega), List.getElem?_eq_none (by simp; omega)]
    · cases hblk
  | panicked c => exact he.elim
  | outgrown => exact he.elim
end
theorem enters_of {P : Program} {f : Nat} {fn : Func} (h : P.funcs[f]? = some fn) (hb : fn.body.isSome = true) (hn : ¬ fn.name = "runtime.NumGoroutine") : ∀ args w, (callFunc f args).run P w = .ok (.enter f args) w := by
  intro args w
  cases hc : fn.body with
  | none => rw [hc] at hb; cases hb
  | some b => simp [callFunc, h, hn, hc]
theorem small_cases {ss : List Int} (hn : ss.Nodup) (h : ∀ x ∈ ss, One2 x) : ss = [] ∨ ss = [1] ∨ ss = [2] ∨ ss = [1, 2] ∨ ss = [2, 1] := by
  match ss, hn, h with
  | [], _, _ => exact .inl rfl
  | [a], _, h => rcases h a (by simp) with rfl | rfl <;> simp
  | [a, b], hn, h =>
    have hab : a ≠ b := fun e => by simp [e] at hn
    rcases h a (by simp) with rfl | rfl <;> rcases h b (by simp) with rfl | rfl <;> simp at hab ⊢
  | a :: b :: c :: l, hn, h =>
    exfalso
    have hab : a ≠ b := fun e => by simp [e] at hn
    have hac : a ≠ c := fun e => by simp [e] at hn
    have hbc : b ≠ c := fun e => by simp [e] at hn
    rcases h a (by simp) with rfl | rfl <;> rcases h b (by simp) with rfl | rfl <;> rcases h c (by simp) with rfl | rfl <;> simp at hab hac hbc
end Go.Am
