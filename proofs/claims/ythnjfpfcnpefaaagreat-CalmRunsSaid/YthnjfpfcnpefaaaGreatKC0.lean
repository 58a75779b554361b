/-
  Runs cut into pieces: memory that is no longer reached is given up between them; calls and loops that are known. Conditions: none.
-/
import Derived.Test.YthnjfpfcnpefaaaGreatK27
namespace Go.Am
open Go.RowKit (Below)
/-- Less memory. -/
structure Less (L σ : S) : Prop where
  next : L.next = σ.next
  heap : ∀ p b, Tr.get p L.heap = some b → Tr.get p σ.heap = some b
  maps : ∀ p b, Tr.get p L.maps = some b → Tr.get p σ.maps = some b
  fam : ∀ b blk root vb, Tr.get b L.heap = some blk → blk.kind = .fam root vb → b ∈ famOf root L.fams
  keys : ∀ p l, Tr.get p L.fams = some l → ∃ b blk vb, Tr.get b σ.heap = some blk ∧ blk.kind = .fam p vb
  mem : ∀ root b, b ∈ famOf root L.fams → ∃ blk, Tr.get b σ.heap = some blk
theorem WR.less {w0 w : World} {m : Mp} {σ L : S} (h : WR w0 m σ w) (l : Less L σ) : WR w0 m L w := by
  refine ⟨h.below, fun b mi hb => by rw [l.next]; exact h.dom b mi hb, fun b blk hb => h.blk b blk (l.heap _ _ hb), fun b b' blk blk' mi mi' h1 h2 => h.alias b b' blk blk' mi mi' (l.heap _ _ h1) (l.heap _ _ h2), l.fam, fun p hp => ?_, fun b mb hb => h.mp b mb (l.maps _ _ hb), fun b b' mb mb' mi mi' h1 h2 => h.mpi b b' mb mb' mi mi' (l.maps _ _ h1) (l.maps _ _ h2)⟩
  rw [l.next] at hp
  obtain ⟨t1, t2, t3⟩ := h.tidy p hp
  refine ⟨?_, fun root hr => ?_, fun b blk root vb hb hk => t3 b blk root vb (l.heap _ _ hb) hk⟩
  · cases hf : Tr.get p L.fams with
    | none => rfl
    | some x =>
      obtain ⟨b, blk, vb, h1, h2⟩ := l.keys p x hf
      exact absurd rfl (t3 b blk p vb h1 h2)
  · obtain ⟨blk, hb⟩ := l.mem root p hr
    rw [h.fresh' hp] at hb; cases hb
/-! Memory and temporaries laid out of lists. -/
def pn (n : Nat) : Pos := match Pos.ofNat n with
  | some p => p
  | none => Pos.first
def tn (n : Nat) : Slot := match Slot.of n with
  | some s => s
  | none => .mk .a1 .a1
noncomputable def mkM (ms : List (Pos × MBlk)) : Tr MBlk := match ms with
  | [] => Tr.empty
  | (p, mb) :: ms => forcePos p fun p => Tr.setK p (some mb) (mkM ms) fun t => t
noncomputable def mkS (hs : List (Pos × Blk)) (ms : List (Pos × MBlk)) (next : Pos) : S := match hs with
  | [] => forcePos next fun next => ⟨Tr.empty, next, Tr.empty, mkM ms⟩
  | (p, blk) :: hs => forcePos p fun p => S.lay (mkS hs ms next) p blk
noncomputable def mkT (l : List (Nat × AVal)) : Tm := match l with
  | [] => Ts.empty
  | (t, v) :: l => headK v fun v => Ts.setK (tn t) (some v) (mkT l) fun t => t
/-- Memory laid ready. -/
noncomputable def onS (σ : S) (k : S → Bool) : Bool := match σ with
  | ⟨h, nx, fm, ms⟩ => match h with
    | .mk lo hi => k ⟨.mk lo hi, nx, fm, ms⟩
noncomputable def onT (T : Tm) (k : Tm → Bool) : Bool := match T with
  | .mk a b c d e f g h i j l m n o p q => k (.mk a b c d e f g h i j l m n o p q)
theorem onS_eq (σ : S) (k : S → Bool) : onS σ k = k σ := by obtain ⟨⟨lo, hi⟩, nx, fm, ms⟩ := σ; rfl
theorem onT_eq (T : Tm) (k : Tm → Bool) : onT T k = k T := by cases T; rfl
theorem mkS_nil (ms : List (Pos × MBlk)) (next : Pos) : mkS [] ms next = ⟨Tr.empty, next, Tr.empty, mkM ms⟩ := by rw [mkS, forcePos_eq]
theorem mkS_cons (p : Pos) (blk : Blk) (hs : List (Pos × Blk)) (ms : List (Pos × MBlk)) (next : Pos) : mkS ((p, blk) :: hs) ms next = S.lay (mkS hs ms next) p blk := by rw [mkS, forcePos_eq]
/-! Short names for what the lists are made of. -/
def vi (n : Nat) : AVal := .int .i64 (.ofNat n)
def vu (n : Nat) : AVal := .int .u8 (.ofNat n)
def vt : AVal := .bool true
def vf : AVal := .bool false
noncomputable def vp (b o : Nat) : AVal := forcePos (pn b) fun p => .ptr p o
noncomputable def vs (b o l e : Nat) : AVal := forcePos (pn b) fun p => .slu p o l e
noncomputable def vl (b o l c : Nat) : AVal := forcePos (pn b) fun p => .sl p o l c
noncomputable def vm (b : Nat) : AVal := forcePos (pn b) fun p => .map p
noncomputable def kf (r v : Nat) : Kind := forcePos (pn r) fun p => .fam p v
noncomputable def eqTs (xs ys : List AVal) : Bool := match xs with
  | [] => match ys with
    | [] => true
    | _ :: _ => false
  | x :: xs => match ys with
    | [] => false
    | y :: ys => same x y && eqTs xs ys
noncomputable def eqT (x y : AVal) : Bool := match x with
  | .tup xs => match y with
    | .tup ys => eqTs xs ys
    | _ => false
  | x => same x y
theorem eqTs_to : ∀ {xs ys : List AVal}, eqTs xs ys = true → xs = ys
  | [], [], _ => rfl
  | [], _ :: _, h => by cases h
  | _ :: _, [], h => by cases h
  | x :: xs, y :: ys, h => by
    simp only [eqTs, Bool.and_eq_true] at h
    rw [same_eq h.1, eqTs_to h.2]
theorem eqT_to {x y : AVal} (h : eqT x y = true) : x = y := by
  unfold eqT at h
  split at h
  · split at h
    · rw [eqTs_to h]
    · cases h
  · exact same_eq h
noncomputable def kindB (x y : Kind) : Bool := match x with
  | .ex => match y with
    | .ex => true
    | _ => false
  | .ro => match y with
    | .ro => true
    | _ => false
  | .fam r v => match y with
    | .fam r' v' => r.beq r' && Nat.beq v v'
    | _ => false
theorem kindB_to {x y : Kind} (h : kindB x y = true) : x = y := by
  cases x <;> cases y <;> first | rfl | (cases h; done) | skip
  simp only [kindB, Bool.and_eq_true] at h
  rw [Pos.beq_iff.1 h.1, Nat.eq_of_beq_eq_true h.2]
noncomputable def blkB (x y : Blk) : Bool := match x with
  | ⟨e, k, cs⟩ => match y with
    | ⟨e', k', cs'⟩ => Nat.beq e e' && (kindB k k' && sames cs cs')
theorem blkB_to {x y : Blk} (h : blkB x y = true) : x = y := by
  obtain ⟨e, k, cs⟩ := x; obtain ⟨e', k', cs'⟩ := y
  simp only [blkB, Bool.and_eq_true] at h
  rw [Nat.eq_of_beq_eq_true h.1, kindB_to h.2.1, sames_eq h.2.2]
noncomputable def esB (x y : MEs) : Bool := match x with
  | [] => match y with
    | [] => true
    | _ :: _ => false
  | (b, k, v) :: x => match y with
    | [] => false
    | (b', k', v') :: y => Nat.beq b b' && (same k k' && (eqT v v' && esB x y))
theorem esB_to : ∀ {x y : MEs}, esB x y = true → x = y
  | [], [], _ => rfl
  | [], _ :: _, h => by cases h
  | _ :: _, [], h => by cases h
  | (b, k, v) :: x, (b', k', v') :: y, h => by
    simp only [esB, Bool.and_eq_true] at h
    rw [Nat.eq_of_beq_eq_true h.1, same_eq h.2.1, eqT_to h.2.2.1, esB_to h.2.2.2]
noncomputable def mbB (x y : MBlk) : Bool := match x with
  | ⟨c, es⟩ => match y with
    | ⟨c', es'⟩ => Nat.beq c c' && esB es es'
theorem mbB_to {x y : MBlk} (h : mbB x y = true) : x = y := by
  obtain ⟨c, es⟩ := x; obtain ⟨c', es'⟩ := y
  simp only [mbB, Bool.and_eq_true] at h
  rw [Nat.eq_of_beq_eq_true h.1, esB_to h.2]
noncomputable def inH (t : Tr Blk) (hs : List (Pos × Blk)) : Bool := match hs with
  | [] => true
  | (p, blk) :: hs => (match Tr.get p t with
    | some b => blkB b blk
    | none => false) && inH t hs
noncomputable def inM (t : Tr MBlk) (ms : List (Pos × MBlk)) : Bool := match ms with
  | [] => true
  | (p, blk) :: ms => (match Tr.get p t with
    | some b => mbB b blk
    | none => false) && inM t ms
noncomputable def lessB (σ : S) (hs : List (Pos × Blk)) (ms : List (Pos × MBlk)) (next : Pos) : Bool := match σ with
  | ⟨h, nx, _, mt⟩ => nx.beq next && (inH h hs && inM mt ms)
theorem inM_ok {t : Tr MBlk} : ∀ {ms : List (Pos × MBlk)}, inM t ms = true → ∀ p b, Tr.get p (mkM ms) = some b → Tr.get p t = some b
  | [], _, p, b, hb => by rw [mkM, Tr.get_empty] at hb; cases hb
  | (q, mb) :: ms, h, p, b, hb => by
    simp only [inM, Bool.and_eq_true] at h
    rw [mkM, forcePos_eq, Tr.setK_eq, Tr.get_set] at hb
    by_cases e : p = q
    · rw [if_pos e] at hb; cases hb
      have h1 := h.1
      split at h1
      · rename_i b' hb'
        rw [e, hb', mbB_to h1]
      · cases h1
    · rw [if_neg e] at hb
      exact inM_ok h.2 p b hb
theorem mkS_next (hs : List (Pos × Blk)) (ms : List (Pos × MBlk)) (next : Pos) : (mkS hs ms next).next = next := by
  induction hs with
  | nil => rw [mkS_nil]
  | cons x hs ih => obtain ⟨p, blk⟩ := x; rw [mkS_cons, lay_next, ih]
theorem mkS_maps (hs : List (Pos × Blk)) (ms : List (Pos × MBlk)) (next : Pos) : (mkS hs ms next).maps = mkM ms := by
  induction hs with
  | nil => rw [mkS_nil]
  | cons x hs ih => obtain ⟨p, blk⟩ := x; rw [mkS_cons, lay_maps, ih]
theorem famOf_put (root q : Pos) (F : Tr (List Pos)) : famOf root (Tr.set root (some (q :: famOf root F)) F) = q :: famOf root F := by
  generalize hl : q :: famOf root F = l
  unfold famOf
  rw [Tr.get_set_same]
theorem lessB_ok {σ : S} {hs : List (Pos × Blk)} {ms : List (Pos × MBlk)} {next : Pos} (h : lessB σ hs ms next = true) : Less (mkS hs ms next) σ := by
  obtain ⟨ht, nx, fm, mt⟩ := σ
  simp only [lessB, Bool.and_eq_true] at h
  obtain ⟨h1, h2, h3⟩ := h
  have h1 := Pos.beq_iff.1 h1
  subst h1
  have key : ∀ hs : List (Pos × Blk), inH ht hs = true → (∀ p b, Tr.get p (mkS hs ms nx).heap = some b → Tr.get p ht = some b) ∧
      (∀ b blk root vb, Tr.get b (mkS hs ms nx).heap = some blk → blk.kind = .fam root vb → b ∈ famOf root (mkS hs ms nx).fams) ∧
      (∀ p l, Tr.get p (mkS hs ms nx).fams = some l → ∃ b blk vb, Tr.get b ht = some blk ∧ blk.kind = .fam p vb) ∧
      (∀ root b, b ∈ famOf root (mkS hs ms nx).fams → ∃ blk, Tr.get b ht = some blk) := by
    intro hs
    induction hs with
    | nil =>
      intro _
      refine ⟨fun p b hb => ?_, fun b blk root vb hb => ?_, fun p l hl => ?_, fun root b hb => ?_⟩
      · rw [mkS_nil, Tr.get_empty] at hb; cases hb
      · rw [mkS_nil, Tr.get_empty] at hb; cases hb
      · rw [mkS_nil, Tr.get_empty] at hl; cases hl
      · rw [mkS_nil] at hb; unfold famOf at hb; rw [Tr.get_empty] at hb; cases hb
    | cons x hs ih =>
      obtain ⟨q, blk⟩ := x
      intro h
      simp only [inH, Bool.and_eq_true] at h
      obtain ⟨i1, i2, i3, i4⟩ := ih h.2
      have hq : Tr.get q ht = some blk := by
        have h1 := h.1
        split at h1
        · rename_i b' hb'
          rw [hb', blkB_to h1]
        · cases h1
      rw [mkS_cons]
      refine ⟨fun p b hb => ?_, fun b bk root vb hb hk => ?_, fun p l hl => ?_, fun root b hb => ?_⟩
      · rw [lay_heap, Tr.get_set] at hb
        by_cases e : p = q
        · rw [if_pos e] at hb; cases hb; rw [e]; exact hq
        · rw [if_neg e] at hb; exact i1 p b hb
      · rw [lay_heap, Tr.get_set] at hb
        rw [lay_fams]
        by_cases e : b = q
        · rw [if_pos e] at hb; cases hb
          rw [hk]
          simp only [famsOf]
          rw [famOf_put]
          rw [e]; exact List.mem_cons_self
        · rw [if_neg e] at hb
          have := i2 b bk root vb hb hk
          unfold famsOf
          split
          · rename_i r v hr
            by_cases e2 : root = r
            · subst e2
              show b ∈ famOf root _
              rw [famOf_put]
              exact List.mem_cons_of_mem _ this
            · simp only [famOf] at this ⊢
              rw [Tr.get_set_ne e2]; exact this
          · exact this
      · rw [lay_fams] at hl
        unfold famsOf at hl
        split at hl
        · rename_i r v hr
          rw [Tr.get_set] at hl
          by_cases e2 : p = r
          · exact ⟨q, blk, v, hq, by rw [hr, e2]⟩
          · rw [if_neg e2] at hl; exact i3 p l hl
        · exact i3 p l hl
      · rw [lay_fams] at hb
        unfold famsOf at hb
        split at hb
        · rename_i r v hr
          by_cases e2 : root = r
          · subst e2
            rw [famOf_put] at hb
            rcases List.mem_cons.1 hb with e | hb
            · subst e; exact ⟨blk, hq⟩
            · exact i4 root b hb
          · refine i4 root b ?_
            simp only [famOf] at hb ⊢
            rw [Tr.get_set_ne e2] at hb; exact hb
        · exact i4 root b hb
  obtain ⟨k1, k2, k3, k4⟩ := key hs h2
  exact ⟨mkS_next _ _ _, k1, fun p b hb => inM_ok h3 p b (by rw [mkS_maps] at hb; exact hb), k2, k3, k4⟩
def allD : List D := [.a1, .a2, .a3, .a4, .a5, .a6, .a7, .a8, .a9, .a10, .a11, .a12, .a13, .a14, .a15, .a16]
theorem mem_allD (i : D) : i ∈ allD := by cases i <;> simp [allD]
/-- All temporaries alike. -/
noncomputable def sameO (x y : Option AVal) : Bool := match x with
  | none => match y with
    | none => true
    | some _ => false
  | some x => match y with
    | none => false
    | some y => eqT x y
theorem sameO_to {x y : Option AVal} (h : sameO x y = true) : x = y := by
  cases x <;> cases y <;> first | rfl | (cases h; done) | skip
  rw [eqT_to h]
noncomputable def rowB (T U : Tm) (i : D) (l : List D) : Bool := match l with
  | [] => true
  | j :: l => sameO (Ts.get (.mk i j) T) (Ts.get (.mk i j) U) && rowB T U i l
noncomputable def rowsB (T U : Tm) (l : List D) : Bool := match l with
  | [] => true
  | i :: l => rowB T U i allD && rowsB T U l
noncomputable def tmB (T U : Tm) : Bool := rowsB T U allD
theorem rowB_to {T U : Tm} {i : D} : ∀ {l : List D}, rowB T U i l = true → ∀ j ∈ l, Ts.get (.mk i j) T = Ts.get (.mk i j) U
  | [], _, j, hj => by cases hj
  | k :: l, h, j, hj => by
    simp only [rowB, Bool.and_eq_true] at h
    rcases List.mem_cons.1 hj with e | hj
    · subst e; exact sameO_to h.1
    · exact rowB_to h.2 j hj
theorem rowsB_to {T U : Tm} : ∀ {l : List D}, rowsB T U l = true → ∀ i ∈ l, ∀ j, Ts.get (.mk i j) T = Ts.get (.mk i j) U
  | [], _, i, hi => by cases hi
  | k :: l, h, i, hi => by
    simp only [rowsB, Bool.and_eq_true] at h
    rcases List.mem_cons.1 hi with e | hi
    · subst e; exact fun j => rowB_to h.1 j (mem_allD j)
    · exact rowsB_to h.2 i hi
def TmEq (T U : Tm) : Prop := ∀ s, T.at s = U.at s
theorem tmB_ok {T U : Tm} (h : tmB T U = true) : TmEq T U := fun s => by
  obtain ⟨i, j⟩ := s
  rw [Tm.at_eq, Tm.at_eq, rowsB_to h i (mem_allD i) j]
theorem TR.eq {m : Mp} {T U : Tm} {a : Array Value} (h : TR m T a) (e : TmEq T U) : TR m U a := fun t s hs => by rw [← e s]; exact h t s hs
section
variable {P : Program} {w0 w : World} {m : Mp} {σ σ' L L' : S} {T T' U : Tm} {nt : Nat} {a : Act}
theorem Rel.less (h : Rel w0 nt m T σ a w) (l : Less L σ) (e : TmEq T U) : Rel w0 nt m U L a w := ⟨h.wr.less l, h.tr.eq e, h.size, h.defers⟩
theorem Ext.from {m' : Mp} (h : L.next = σ.next) (e : Ext m m' L σ') : Ext m m' σ σ' := ⟨e.le, fun b hb => e.old b (by rw [h]; exact hb), by rw [← h]; exact e.next⟩
theorem Ext.to {m' : Mp} (h : L'.next = σ'.next) (e : Ext m m' σ σ') : Ext m m' σ L' := ⟨e.le, e.old, by rw [h]; exact e.next⟩
/-- What is known of a call from a memory. -/
def Known (P : Program) (f : Nat) (args : List AVal) (L : S) (v : AVal) (L' : S) : Prop := ∀ (w0 w : World) (m : Mp) (xs : Array Value), WR w0 m L w → VRs m args xs.toList →
  (callFunc f xs).run P w = .ok (.enter f xs) w ∧ Calls P f xs w (DoneE w0 m L v L')
theorem DoneE.from {v : AVal} {e : Ending} {w' : World} (h : DoneE w0 m L v σ' e w') (l : L.next = σ.next) : DoneE w0 m σ v σ' e w' := by
  cases e with
  | returned x =>
    obtain ⟨m', h1, h2, h3⟩ := h
    exact ⟨m', h1, h2.from l, h3⟩
  | panicked c => exact h.elim
  | outgrown => exact h.elim
theorem DoneE.to {v : AVal} {e : Ending} {w' : World} (h : DoneE w0 m σ v σ' e w') (l : Less L' σ') : DoneE w0 m σ v L' e w' := by
  cases e with
  | returned x =>
    obtain ⟨m', h1, h2, h3⟩ := h
    exact ⟨m', h1, h2.to l.next, h3.less l⟩
  | panicked c => exact h.elim
  | outgrown => exact h.elim
end
end Go.Am
