/-
  Statements whose order is open: an operation that is ready may go first. Conditions: none.
-/
import Derived.Test.YtdolmkdbpnlegaaGreatDoorK20
namespace Go.Am
section
variable {call : Caller} {base : Pos} {T T' T2 : Tm} {σ σ' : S} {v w : AVal}
theorem beqB_to {a b : Bool} (h : beqB a b = true) : a = b := by cases a <;> cases b <;> first | rfl | cases h
theorem same1_eq (h : same1 v w = true) : v = w := by
  cases v <;> cases w <;> simp only [same1] at h <;> first | rfl | (cases h; done) | skip
  · rw [beqB_to h]
  · split at h
    · rename_i hk; rw [keq_iff.1 hk, ieq_iff.1 h]
    · cases h
  · rw [seq_iff.1 h]
  · split at h
    · rename_i hk; rw [Pos.beq_iff.1 hk, Nat.eq_of_beq_eq_true h]
    · cases h
  · simp only [Bool.and_eq_true] at h
    rw [Pos.beq_iff.1 h.1, Nat.eq_of_beq_eq_true h.2.1, Nat.eq_of_beq_eq_true h.2.2.1, Nat.eq_of_beq_eq_true h.2.2.2]
  · simp only [Bool.and_eq_true] at h
    rw [Pos.beq_iff.1 h.1, Nat.eq_of_beq_eq_true h.2.1, Nat.eq_of_beq_eq_true h.2.2.1, Nat.eq_of_beq_eq_true h.2.2.2]
  · rw [Pos.beq_iff.1 h]
theorem sames_eq : ∀ {xs ys : List AVal}, sames xs ys = true → xs = ys
  | [], [], _ => rfl
  | [], _ :: _, h => by cases h
  | _ :: _, [], h => by cases h
  | x :: xs, y :: ys, h => by
    unfold sames at h
    simp only at h
    cases h1 : same1 x y with
    | true => rw [h1] at h; rw [same1_eq h1, sames_eq h]
    | false => rw [h1] at h; cases h
theorem same_eq (h : same v w = true) : v = w := by
  unfold same at h
  split at h
  · split at h
    · rw [sames_eq h]
    · cases h
  · exact same1_eq h
def Agree (l : List Slot) (T T2 : Tm) : Prop := ∀ s ∈ l, T.at s = T2.at s
theorem Agree.ev {x : Opd} (h : Agree x.slots T T2) : x.ev T = x.ev T2 := by
  cases x with
  | tmp p => exact h p (by simp [Opd.slots])
  | val v => rfl
def AgreeO (l : List Opd) (T T2 : Tm) : Prop := ∀ x ∈ l, Opd.ev T x = Opd.ev T2 x
theorem Agree.opds {l : List Opd} (h : Agree (l.flatMap Opd.slots) T T2) : AgreeO l T T2 := fun x hx => Agree.ev fun s hs => h s (List.mem_flatMap.2 ⟨x, hx, hs⟩)
theorem AgreeO.evs {l : List Opd} (h : AgreeO l T T2) : evs T l = evs T2 l := by
  induction l with
  | nil => rfl
  | cons x l ih =>
    unfold Am.evs
    rw [headK_eq, headK_eq, h x List.mem_cons_self, ih fun y hy => h y (List.mem_cons_of_mem _ hy)]
theorem AgreeO.evo {x : Option Opd} (h : AgreeO x.toList T T2) : evo T x = evo T2 x := by
  cases x with
  | none => rfl
  | some x => unfold Am.evo; simp only; rw [h x (by simp)]
theorem AgreeO.parts {l : List (Nat × Nat × Opd)} (h : AgreeO (l.map fun q => q.2.2) T T2) : evParts T l = evParts T2 l := by
  induction l with
  | nil => rfl
  | cons x l ih =>
    obtain ⟨a, b, x⟩ := x
    unfold evParts
    rw [h x (by simp), ih fun y hy => h y (by simp at hy ⊢; exact .inr hy)]
theorem agreeO_cons {x : Opd} {l : List Opd} : AgreeO (x :: l) T T2 ↔ x.ev T = x.ev T2 ∧ AgreeO l T T2 :=
  ⟨fun h => ⟨h x List.mem_cons_self, fun y hy => h y (List.mem_cons_of_mem _ hy)⟩, fun h y hy => by cases hy with | head => exact h.1 | tail _ hy => exact h.2 y hy⟩
theorem agreeO_append {l r : List Opd} : AgreeO (l ++ r) T T2 ↔ AgreeO l T T2 ∧ AgreeO r T T2 :=
  ⟨fun h => ⟨fun y hy => h y (List.mem_append_left _ hy), fun y hy => h y (List.mem_append_right _ hy)⟩, fun h y hy => (List.mem_append.1 hy).elim (h.1 y) (h.2 y)⟩
theorem q_agree {q : QOp} (h : AgreeO q.opds T T2) : evalQ q T σ = evalQ q T2 σ := by
  cases q with
  | mov x => exact congrArg (fun v => headK v some) (agreeO_cons.1 h).1
  | load1 x => exact congrArg (fun v => vLoad1 v σ) (agreeO_cons.1 h).1
  | loadN n x => exact congrArg (fun v => vLoadN n v σ) (agreeO_cons.1 h).1
  | nilck x => exact congrArg (fun v => vNilck v) (agreeO_cons.1 h).1
  | un op x => exact congrArg (fun v => unA op v) (agreeO_cons.1 h).1
  | toInt k x => exact congrArg (fun v => vToInt k v) (agreeO_cons.1 h).1
  | sameStr x => exact congrArg (fun v => vSameStr v) (agreeO_cons.1 h).1
  | bytesStr x => exact congrArg (fun v => vBytesStr v σ) (agreeO_cons.1 h).1
  | fieldAddr o x => exact congrArg (fun v => vFieldAddr o v) (agreeO_cons.1 h).1
  | field o n b x => exact congrArg (fun v => vPart o n b v) (agreeO_cons.1 h).1
  | extract i x => exact congrArg (fun v => vExtract i v) (agreeO_cons.1 h).1
  | lenStr x => exact congrArg (fun v => vLenStr v) (agreeO_cons.1 h).1
  | lenSl x => exact congrArg (fun v => vLenSl v) (agreeO_cons.1 h).1
  | capSl x => exact congrArg (fun v => vCapSl v) (agreeO_cons.1 h).1
  | lenK n => rfl
  | pick a b c =>
    have h1 := agreeO_cons.1 h
    have h2 := agreeO_cons.1 h1.2
    have h3 := agreeO_cons.1 h2.2
    simp only [evalQ, qPick, h1.1, h2.1, h3.1]
  | bin op tk x y =>
    have h1 := agreeO_cons.1 h
    have h2 := agreeO_cons.1 h1.2
    simp only [evalQ, qBin, h1.1, h2.1]
  | eqAgg cs neg x y =>
    have h1 := agreeO_cons.1 h
    have h2 := agreeO_cons.1 h1.2
    simp only [evalQ, qEqAgg, h1.1, h2.1]
  | ixArr n e x y =>
    have h1 := agreeO_cons.1 h
    have h2 := agreeO_cons.1 h1.2
    simp only [evalQ, qIxArr, h1.1, h2.1]
  | ixSl e x y =>
    have h1 := agreeO_cons.1 h
    have h2 := agreeO_cons.1 h1.2
    simp only [evalQ, qIxSl, h1.1, h2.1]
  | idxAgg n e b x y =>
    have h1 := agreeO_cons.1 h
    have h2 := agreeO_cons.1 h1.2
    simp only [evalQ, qIdxAgg, h1.1, h2.1]
  | idxStr x y =>
    have h1 := agreeO_cons.1 h
    have h2 := agreeO_cons.1 h1.2
    simp only [evalQ, qIdxStr, h1.1, h2.1]
  | slStr x lo hi =>
    have h1 := agreeO_cons.1 h
    have h2 := agreeO_append.1 h1.2
    simp only [evalQ, qSlStr, h1.1, h2.1.evo, h2.2.evo]
  | slSl e x lo hi mx =>
    have h1 := agreeO_cons.1 h
    have h2 := agreeO_append.1 h1.2
    have h3 := agreeO_append.1 h2.2
    simp only [evalQ, qSlSl, h1.1, h2.1.evo, h3.1.evo, h3.2.evo]
  | slArr n e x lo hi mx =>
    have h1 := agreeO_cons.1 h
    have h2 := agreeO_append.1 h1.2
    have h3 := agreeO_append.1 h2.2
    simp only [evalQ, qSlArr, h1.1, h2.1.evo, h3.1.evo, h3.2.evo]
  | build z ps => have h : AgreeO (ps.map fun q => q.2.2) T T2 := h; simp only [evalQ, qBuild, h.parts]
  | maxI x xs =>
    have h1 := agreeO_cons.1 h
    simp only [evalQ, qMaxI, h1.1, h1.2.evs]
  | minI x xs =>
    have h1 := agreeO_cons.1 h
    simp only [evalQ, qMinI, h1.1, h1.2.evs]
  | mkFunc f caps => have h : AgreeO caps T T2 := h; simp only [evalQ, qMkFunc, h.evs]
  | mlen x => exact congrArg (fun v => vLenM v σ) (agreeO_cons.1 h).1
  | mentry x => exact congrArg (fun v => vEntry v σ) (agreeO_cons.1 h).1
  | mlook g cs z ok x y =>
    have h1 := agreeO_cons.1 h
    have h2 := agreeO_cons.1 h1.2
    simp only [evalQ, qMlook, h1.1, h2.1]
  | mkI t x => exact congrArg (fun v => headK v (vMkI t)) (agreeO_cons.1 h).1
  | cntS x y =>
    have h1 := agreeO_cons.1 h
    have h2 := agreeO_cons.1 h1.2
    simp only [evalQ, qCntS, h1.1, h2.1]
  | ixbS x y =>
    have h1 := agreeO_cons.1 h
    have h2 := agreeO_cons.1 h1.2
    simp only [evalQ, qIxbS, h1.1, h2.1]
  | toU x => simp only [evalQ, qToU, (agreeO_cons.1 h).1]
  | ofU tg n x => simp only [evalQ, qOfU, (agreeO_cons.1 h).1]
  | slData x => simp only [evalQ, qSlData, (agreeO_cons.1 h).1]
theorem a_agree {q : AOp} (h : AgreeO q.opds T T2) : evalA q T = evalA q T2 := by
  cases q with
  | alloc z => rfl
  | allocT tg z => rfl
  | box x => simp only [evalA, aBox, (agreeO_cons.1 h).1]
  | strBytes x => simp only [evalA, aStrBytes, (agreeO_cons.1 h).1]
  | bslice e z n ps => have h : AgreeO (ps.map fun q => q.2.2) T T2 := h; simp only [evalA, aBslice, h.parts]
  | mkslice e b z x y =>
    have h1 := agreeO_cons.1 h
    have h2 := agreeO_cons.1 h1.2
    simp only [evalA, aMkslice, h1.1, h2.1]
theorem e_agree {q : EOp} (h : AgreeO q.opds T T2) : evalE q call T σ = evalE q call T2 σ := by
  cases q with
  | store n x y =>
    have h1 := agreeO_cons.1 h
    have h2 := agreeO_cons.1 h1.2
    simp only [evalE, eStore, h1.1, h2.1]
  | append e b x y =>
    have h1 := agreeO_cons.1 h
    have h2 := agreeO_cons.1 h1.2
    simp only [evalE, eAppend, h1.1, h2.1]
  | appendT tg e b x y =>
    have h1 := agreeO_cons.1 h
    have h2 := agreeO_cons.1 h1.2
    simp only [evalE, eAppendT, h1.1, h2.1]
  | uStr tg x y =>
    have h1 := agreeO_cons.1 h
    have h2 := agreeO_cons.1 h1.2
    simp only [evalE, eUStr, h1.1, h2.1]
  | copy e x y =>
    have h1 := agreeO_cons.1 h
    have h2 := agreeO_cons.1 h1.2
    simp only [evalE, eCopy, h1.1, h2.1]
  | call f l => have h : AgreeO l T T2 := h; simp only [evalE, eCall, h.evs]
  | callV f l =>
    have h1 := agreeO_cons.1 h
    simp only [evalE, eCallV, h1.1, h1.2.evs]
  | mmake r => have h : AgreeO r.toList T T2 := h; simp only [evalE, eMmake, h.evo]
  | mset g cs x y z =>
    have h1 := agreeO_cons.1 h
    have h2 := agreeO_cons.1 h1.2
    have h3 := agreeO_cons.1 h2.2
    simp only [evalE, eMset, h1.1, h2.1, h3.1]
  | mdel g cs x y =>
    have h1 := agreeO_cons.1 h
    have h2 := agreeO_cons.1 h1.2
    simp only [evalE, eMdel, h1.1, h2.1]
  | ment g cs z x y =>
    have h1 := agreeO_cons.1 h
    have h2 := agreeO_cons.1 h1.2
    simp only [evalE, eMent, h1.1, h2.1]
  | mstamp x y z =>
    have h1 := agreeO_cons.1 h
    have h2 := agreeO_cons.1 h1.2
    have h3 := agreeO_cons.1 h2.2
    simp only [evalE, eMstamp, h1.1, h2.1, h3.1]
  | clr e z x => simp only [evalE, eClr, (agreeO_cons.1 h).1]
  | mrange x => simp only [evalE, eMrange, (agreeO_cons.1 h).1]
  | mnext x => simp only [evalE, eMnext, (agreeO_cons.1 h).1]
theorem q_pure {q : QOp} (h : q.reads = false) (σ2 : S) : evalQ q T σ = evalQ q T σ2 := by
  cases q <;> first | rfl | cases h
noncomputable def valD (call : Caller) (base : Pos) (ix : Nat) (o : POp) (T : Tm) (σ : S) : Option (AVal × S) := match wanted o.guard T with
  | true => match o.op with
    | .q q => andThen (evalQ q T σ) fun v => some (v, σ)
    | .a q => andThen (evalA q T) fun x => match Pos.plus ix base with
      | some p => some (x.2 p, σ.lay p (x.1.named p))
      | none => none
    | .e q => evalE q call T σ
  | false => some (.undef, σ)
noncomputable def rereads (T : Tm) (o : POp) : Bool := wanted o.guard T && o.isE
theorem evalD_iff {ix : Nat} {o : POp} {cks : List POp} : evalD call base ⟨ix, o, cks⟩ T σ = some (T', σ') ↔
    ∃ v, valD call base ix o T σ = some (v, σ') ∧ T' = T.put o.dst v ∧ (rereads T o = true → rechecks T' σ' cks = true) := by
  obtain ⟨d, g, k⟩ := o
  unfold evalD valD rereads
  simp only
  cases hw : wanted g T with
  | false =>
    simp only [Tm.putK_eq, Bool.false_and]
    constructor
    · intro h; cases h; exact ⟨_, rfl, rfl, fun h => by cases h⟩
    · rintro ⟨v, h1, rfl, _⟩; cases h1; rfl
  | true =>
    simp only [Bool.true_and]
    cases k with
    | q q =>
      simp only [dK, dQ, opQ, Tm.putK_eq, POp.isE]
      constructor
      · intro h
        obtain ⟨v, h1, h⟩ := andThen_eq.1 h
        cases h
        exact ⟨v, by rw [h1]; rfl, rfl, fun h => by cases h⟩
      · rintro ⟨v, h1, rfl, _⟩
        obtain ⟨v', h2, h1⟩ := andThen_eq.1 h1
        cases h1; rw [h2]; rfl
    | a q =>
      simp only [dK, dA, POp.isE]
      constructor
      · intro h
        obtain ⟨⟨blk, mk⟩, h1, h⟩ := andThen_eq.1 h
        simp only at h
        rw [Pos.addK_eq] at h
        cases hp : Pos.plus ix base with
        | none => rw [hp] at h; cases h
        | some p =>
          rw [hp] at h
          simp only [Tm.putK_eq] at h
          cases h
          exact ⟨mk p, by rw [h1]; rfl, rfl, fun h => by cases h⟩
      · rintro ⟨v, h1, rfl, _⟩
        obtain ⟨⟨blk, mk⟩, h2, h1⟩ := andThen_eq.1 h1
        rw [h2]
        simp only [andThen_some]
        rw [Pos.addK_eq]
        cases hp : Pos.plus ix base with
        | none => rw [hp] at h1; cases h1
        | some p =>
          rw [hp] at h1
          simp only at h1
          cases h1
          simp only [Tm.putK_eq]
    | e q =>
      simp only [dK, dE, POp.isE]
      constructor
      · intro h
        obtain ⟨⟨v, σ1⟩, h1, h⟩ := andThen_eq.1 h
        simp only [Tm.putK_eq] at h
        obtain ⟨h2, h⟩ := test_eq.1 h
        cases h
        exact ⟨v, h1, rfl, fun _ => h2⟩
      · rintro ⟨v, h1, rfl, h2⟩
        rw [h1]
        simp only [andThen_some, Tm.putK_eq]
        rw [h2 trivial]; rfl
theorem wanted_agree {o : POp} (h : Agree o.looks T T2) : wanted o.guard T = wanted o.guard T2 := by
  cases hg : o.guard with
  | none => rfl
  | some x =>
    obtain ⟨p, want⟩ := x
    rw [wanted_some, wanted_some, h p (by unfold POp.looks; rw [hg]; simp)]
theorem looks_opds {o : POp} (h : Agree o.looks T T2) : AgreeO o.op.opds T T2 := Agree.opds fun s hs => h s (List.mem_append_left _ hs)
theorem valD_agree {ix : Nat} {o : POp} (h : Agree o.looks T T2) : valD call base ix o T σ = valD call base ix o T2 σ := by
  have h1 := wanted_agree h
  have h2 := looks_opds h
  obtain ⟨d, g, k⟩ := o
  unfold valD
  simp only at h1 h2 ⊢
  rw [h1]
  cases wanted g T2 with
  | false => rfl
  | true =>
    cases k with
    | q q => simp only; rw [q_agree h2]
    | a q => simp only; rw [a_agree h2]
    | e q => simp only; rw [e_agree h2]
theorem recheck_agree {z : POp} (h : Agree z.looks T T2) (hd : ∀ s, z.dst = some s → T.at s = T2.at s) : recheck T σ z = recheck T2 σ z := by
  have h1 := wanted_agree h
  have h2 := looks_opds h
  obtain ⟨d, g, k⟩ := z
  unfold recheck
  simp only at h1 h2 hd ⊢
  rw [h1]
  cases wanted g T2 with
  | false => rfl
  | true =>
    simp only
    unfold recheckQ
    cases k with
    | q q =>
      cases d with
      | none => rfl
      | some s => simp only; rw [q_agree h2, hd s rfl]
    | a q => rfl
    | e q => rfl
theorem rechecks_iff {l : List POp} : rechecks T σ l = true ↔ ∀ z ∈ l, recheck T σ z = true := by
  induction l with
  | nil => exact ⟨fun _ z hz => (by cases hz), fun _ => rfl⟩
  | cons z l ih =>
    unfold rechecks
    cases hr : recheck T σ z with
    | true =>
      simp only
      rw [ih]
      exact ⟨fun h y hy => (by cases hy with | head => exact hr | tail _ hy => exact h y hy), fun h y hy => h y (List.mem_cons_of_mem _ hy)⟩
    | false =>
      simp only
      exact ⟨fun h => (by cases h), fun h => (by have := h z List.mem_cons_self; rw [hr] at this; cases this)⟩
theorem slotEq_iff {s t : Slot} : slotEq s t = true ↔ s = t := ⟨fun h => Slot.nat_inj (Nat.eq_of_beq_eq_true h), fun h => by subst h; exact Nat.beq_refl _⟩
theorem slotIn_iff {s : Slot} {l : List Slot} : slotIn s l = true ↔ s ∈ l := by
  unfold slotIn
  rw [List.any_eq_true]
  exact ⟨fun ⟨t, ht, h⟩ => by rw [slotEq_iff.1 h]; exact ht, fun h => ⟨s, h, slotEq_iff.2 rfl⟩⟩
theorem noClash_iff {x y : POp} : noClash x y = true ↔ ∀ s, x.dst = some s → s ∉ y.looks ∧ y.dst ≠ some s := by
  unfold noClash
  cases x.dst with
  | none => simp
  | some s =>
    simp only [Bool.and_eq_true, Bool.not_eq_true']
    rw [← Bool.not_eq_true, slotIn_iff]
    cases y.dst with
    | none => simp
    | some t =>
      simp only
      constructor
      · rintro ⟨h1, h2⟩ s' hs'
        cases hs'
        refine ⟨h1, fun e => ?_⟩
        cases e
        rw [slotEq_iff.2 rfl] at h2; cases h2
      · intro h
        refine ⟨(h s rfl).1, ?_⟩
        cases he : slotEq s t with
        | false => rfl
        | true => exact absurd (congrArg some (slotEq_iff.1 he).symm) (h s rfl).2
theorem at_put_ne {d : Option Slot} {s : Slot} (h : d ≠ some s) : (T.put d v).at s = T.at s := by
  cases d with
  | none => rfl
  | some t => rw [Tm.at_put, if_neg (fun e => h (by rw [e]))]
theorem noClash_agree {x y : POp} (h : noClash x y = true) : Agree y.looks (T.put x.dst v) T := by
  intro s hs
  refine at_put_ne fun e => ?_
  exact (noClash_iff.1 h s e).1 hs
theorem noClash_dst {x y : POp} (h : noClash x y = true) (s : Slot) (hs : y.dst = some s) : (T.put x.dst v).at s = T.at s := by
  refine at_put_ne fun e => ?_
  exact (noClash_iff.1 h s e).2 hs
theorem put_comm {x y : POp} (h : noClash x y = true) : (T.put x.dst v).put y.dst w = (T.put y.dst w).put x.dst v := by
  cases hx : x.dst with
  | none => rfl
  | some s =>
    cases hy : y.dst with
    | none => rfl
    | some t =>
      have := (noClash_iff.1 h s hx).2
      rw [hy] at this
      exact Ts.set_comm (fun e => this (by rw [e])) _ _ _
end
end Go.Am
