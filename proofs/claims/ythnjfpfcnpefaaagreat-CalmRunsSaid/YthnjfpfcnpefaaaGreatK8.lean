/-
  The operations that change nothing: fields, elements, structs, lengths. Conditions: none.
-/
import Derived.Test.YthnjfpfcnpefaaaGreatK7
namespace Go.Am
section
variable {P : Program} {w0 w : World} {m : Mp} {σ : S} {T : Tm} {a : Act} {v : AVal} {dst : Option Tmp} {type : TypeId} {pos : String} {after : Array Edge} {guard : Option (Nat × Bool)}
theorem ixOf_run {x : AVal} {z : Value} {n j : Nat} (h : ixOf x n = some j) (hx : VR m x z) : ∃ k, z = .int k (Int.ofNat j) ∧ j < n := by
  unfold ixOf at h
  split at h
  · split at h
    · split at h
      · rename_i hle; cases h; exact ⟨_, hx.int, Nat.le_of_ble_eq_true hle⟩
      · cases h
    · cases h
  · cases h
theorem sim_fieldAddr {t : TypeId} {f : Nat} {fs : Array Field} {fd : Field} {n : Nat} {x : Operand} {y : Opd} (ht : P.underlying t = some (.struct fs)) (hf : fs[f]? = some fd) (hn : csize P fd.type = some n)
    (h0 : n ≠ 0) (hT : TR m T a.tmps) (hx : copd x = some y) (hv : qFieldAddr fd.offset y T σ = some v) : QRuns P a.eval ⟨dst, .fieldAddr t x f, type, pos, after, guard⟩ w m v := by
  have hx' := copd_ok hT hx
  unfold qFieldAddr vFieldAddr at hv
  split at hv
  · rename_i b o hn1
    rw [hn1] at hx'
    obtain ⟨mi, hm, e1⟩ := hx'.ptr
    rw [outPtr_eq] at hv; cases hv
    refine ⟨.pointer (some ⟨mi.c, mi.base + (o + fd.offset), none⟩), ?_, (SR.ptr _ _ mi hm).vr⟩
    simp [execOp, e1, Instr.fieldAt, run_underlying ht, hf, Instr.sureAddr, fieldPlace, sizeOf_run hn, h0, Addr.add_lit, Nat.add_assoc]
  · cases hv
theorem vPart_run {t : TypeId} {off n : Nat} {cs : List AVal} {ys : Array Value} (hu : (P.underlying t).isSome = true) (hn : csize P t = some n) (hs : SRs m cs ys.toList)
    (h : vPart off n (isAggB P t) (.agg cs) = some v) : ∃ z, (part t ys off).run P w = .ok z w ∧ VR m v z := by
  unfold vPart at h
  simp only at h
  unfold part
  cases ha : isAggB P t with
  | true =>
    rw [ha] at h
    simp only at h
    obtain ⟨r, hr, h⟩ := andThen_eq.1 h
    cases h
    rw [dropN_eq] at hr
    obtain ⟨h1, rfl⟩ := takeN_eq.1 hr
    refine ⟨.agg (ys.extract off (off + n)), by simp [isAggB_run t hu, ha, sizeOf_run hn], .v1 _ _ (.agg _ _ ?_)⟩
    rw [Array.toList_extract, List.extract_eq_take_drop, Nat.add_sub_cancel_left]
    exact (hs.drop off).take n
  | false =>
    rw [ha] at h
    simp only at h
    rw [nthV_eq] at h
    obtain ⟨z, hz, hs'⟩ := hs.get h
    refine ⟨z, ?_, hs'.vr⟩
    have : ys[off]? = some z := by rw [← Array.getElem?_toList]; exact hz
    simp [isAggB_run t hu, ha, this]
theorem sim_field {t : TypeId} {f : Nat} {fs : Array Field} {fd : Field} {n : Nat} {x : Operand} {y : Opd} (ht : P.underlying t = some (.struct fs)) (hf : fs[f]? = some fd) (hn : csize P fd.type = some n)
    (hu : (P.underlying fd.type).isSome = true) (hT : TR m T a.tmps) (hx : copd x = some y) (hv : qField fd.offset n (isAggB P fd.type) y T σ = some v) :
    QRuns P a.eval ⟨dst, .field t x f, type, pos, after, guard⟩ w m v := by
  have hx' := copd_ok hT hx
  unfold qField at hv
  revert hv hx'
  generalize y.ev T = u
  intro hv hx'
  cases u with
  | agg cs =>
    obtain ⟨ys, e1, hs⟩ := hx'.agg
    obtain ⟨z, h1, h2⟩ := vPart_run (P := P) (w := w) hu hn hs hv
    exact ⟨z, by simp [execOp, e1, Instr.field, run_underlying ht, hf, asAgg, h1], h2⟩
  | _ => simp [vPart] at hv
theorem sim_idxAgg {t e : TypeId} {k n : Nat} {x i : Operand} {x' i' : Opd} (ht : P.underlying t = some (.array k e)) (hn : csize P e = some n)
    (hu : (P.underlying e).isSome = true) (hT : TR m T a.tmps) (hx : copd x = some x') (hi : copd i = some i') (hv : qIdxAgg k n (isAggB P e) x' i' T σ = some v) :
    QRuns P a.eval ⟨dst, .index t x i, type, pos, after, guard⟩ w m v := by
  have hx' := copd_ok hT hx
  have hi' := copd_ok hT hi
  unfold qIdxAgg vIdxAgg at hv
  split at hv
  · rename_i cs hn1
    rw [hn1] at hx'
    obtain ⟨ys, e1, hs⟩ := hx'.agg
    obtain ⟨j, hj, hv⟩ := andThen_eq.1 hv
    obtain ⟨q, e2, hlt⟩ := ixOf_run hj hi'
    obtain ⟨z, h1, h2⟩ := vPart_run (P := P) (w := w) hu hn hs hv
    refine ⟨z, ?_, h2⟩
    have c1 : (0 : Int) ≤ Int.ofNat j ∧ Int.ofNat j < (k : Int) := ⟨Int.natCast_nonneg j, Int.ofNat_lt.2 hlt⟩
    simp only [execOp, e1, e2, Instr.index, asIntOf, pure_bind, Sem.run_bind, run_underlying ht, Result.andThen_ok, c1, and_self, if_true, sizeOf_run hn]
    show ((part e ys (j * n)).run P w).andThen _ = _
    rw [h1]; rfl
  · cases hv
theorem natsAt_eq (n : Nat) (s : List Nat) : natsAt n s = s[n]? := by
  induction s generalizing n with
  | nil => simp [natsAt]
  | cons c s ih => cases n with
    | zero => simp [natsAt]
    | succ n => simp [natsAt, ih]
theorem sim_idxStr {t : TypeId} {x i : Operand} {x' i' : Opd} (ht : P.underlying t = some .string) (hT : TR m T a.tmps) (hx : copd x = some x') (hi : copd i = some i') (hv : qIdxStr x' i' T σ = some v) :
    QRuns P a.eval ⟨dst, .index t x i, type, pos, after, guard⟩ w m v := by
  have hx' := copd_ok hT hx
  have hi' := copd_ok hT hi
  unfold qIdxStr vIdxStr at hv
  split at hv
  · rename_i s hn1
    rw [hn1] at hx'
    obtain ⟨b, e1, rfl⟩ := hx'.str
    split at hv
    · rename_i k q hn2
      rw [hn2] at hi'
      split at hv
      · rename_i j
        obtain ⟨c, hc, hv⟩ := andThen_eq.1 hv
        cases hv
        rw [natsAt_eq] at hc
        have hlt : j < b.size := by
          have := (List.getElem?_eq_some_iff.1 hc).1; rwa [size_map] at this
        have hbyte : c = (b[j]'hlt).toNat := by
          have h2 := (List.getElem?_eq_some_iff.1 hc).2
          simp only [List.getElem_map, Array.getElem_toList] at h2
          exact h2.symm
        refine ⟨.int .u8 (Int.ofNat c), ?_, (SR.int _ _).vr⟩
        have c1 : (0 : Int) ≤ Int.ofNat j ∧ Int.ofNat j < (b.size : Int) := ⟨Int.natCast_nonneg j, Int.ofNat_lt.2 hlt⟩
        simp only [execOp, e1, hi'.int, Sem.run_bind, run_index_string w t b k (Int.ofNat j) ht, dif_pos c1, Result.andThen_ok, hbyte]
        rfl
      · cases hv
    · cases hv
  · cases hv
theorem sim_ixArr {t e : TypeId} {k n : Nat} {x i : Operand} {x' i' : Opd} (ht : P.underlying t = some (.array k e)) (hn : csize P e = some n)
    (hT : TR m T a.tmps) (hx : copd x = some x') (hi : copd i = some i') (hv : qIxArr k n x' i' T σ = some v) :
    QRuns P a.eval ⟨dst, .indexAddr t x i, type, pos, after, guard⟩ w m v := by
  have hx' := copd_ok hT hx
  have hi' := copd_ok hT hi
  unfold qIxArr vIxArr at hv
  split at hv
  · rename_i b o hn1
    rw [hn1] at hx'
    obtain ⟨mi, hm, e1⟩ := hx'.ptr
    obtain ⟨j, hj, hv⟩ := andThen_eq.1 hv
    obtain ⟨q, e2, hlt⟩ := ixOf_run hj hi'
    rw [outPtr_eq] at hv; cases hv
    have c1 : (0 : Int) ≤ Int.ofNat j ∧ Int.ofNat j < (k : Int) := ⟨Int.natCast_nonneg j, Int.ofNat_lt.2 hlt⟩
    refine ⟨.pointer (some ⟨mi.c, mi.base + (o + j * n), none⟩), ?_, (SR.ptr _ _ mi hm).vr⟩
    simp only [execOp, e1, e2, Instr.indexAt, asIntOf, pure_bind, Sem.run_bind, run_underlying ht, Result.andThen_ok, Instr.sureAddr, Sem.run_pure, c1, and_self, if_true, sizeOf_run hn, Addr.add_lit]
    show Result.ok (Next.value (Value.pointer (some ⟨mi.c, mi.base + o + j * n, none⟩))) w = _
    rw [Nat.add_assoc]
  · cases hv
theorem ixSl_run {t e : TypeId} {n : Nat} {x i : Operand} {b : Addr} {len cap j : Nat} {q : IntKind} (ht : P.underlying t = some (.slice e)) (hn : csize P e = some n)
    (e1 : a.eval x = .slice (some b) len cap) (e2 : a.eval i = .int q (Int.ofNat j)) (hlt : j < len) :
    (execOp a.eval ⟨dst, .indexAddr t x i, type, pos, after, guard⟩).run P w = .ok (.value (.pointer (some (b.add (j * n))))) w := by
  have c1 : (0 : Int) ≤ Int.ofNat j ∧ Int.ofNat j < (len : Int) := ⟨Int.natCast_nonneg j, Int.ofNat_lt.2 hlt⟩
  simp only [execOp, e1, e2, Instr.indexAt, asIntOf, pure_bind, Sem.run_bind, run_underlying ht, Result.andThen_ok, Sem.run_pure, c1, and_self, if_true, sizeOf_run hn]
  rfl
theorem sim_ixSl {t e : TypeId} {n : Nat} {x i : Operand} {x' i' : Opd} (ht : P.underlying t = some (.slice e)) (hn : csize P e = some n)
    (hT : TR m T a.tmps) (hx : copd x = some x') (hi : copd i = some i') (hv : qIxSl n x' i' T σ = some v) :
    QRuns P a.eval ⟨dst, .indexAddr t x i, type, pos, after, guard⟩ w m v := by
  have hx' := copd_ok hT hx
  have hi' := copd_ok hT hi
  unfold qIxSl vIxSl at hv
  split at hv
  · rename_i b o len cap hn1
    rw [hn1] at hx'
    obtain ⟨mi, hm, _, e1⟩ := hx'.sl
    obtain ⟨j, hj, hv⟩ := andThen_eq.1 hv
    obtain ⟨q, e2, hlt⟩ := ixOf_run hj hi'
    rw [outPtr_eq] at hv; cases hv
    refine ⟨_, ixSl_run ht hn e1 e2 hlt, ?_⟩
    rw [Addr.add_lit, Nat.add_assoc]; exact (SR.ptr _ _ mi hm).vr
  · rename_i b o len z hn1
    rw [hn1] at hx'
    obtain ⟨mi, off, cap, hm, c1, c2, c3, e1⟩ := hx'.slu
    obtain ⟨j, hj, hv⟩ := andThen_eq.1 hv
    obtain ⟨q, e2, hlt⟩ := ixOf_run hj hi'
    rw [outPtr_eq] at hv; cases hv
    refine ⟨_, ixSl_run ht hn e1 e2 hlt, ?_⟩
    have : off = (⟨mi.c, mi.base + o, none⟩ : Addr) := by
      rcases c2 with h | h
      · exact h
      · omega
    rw [this, Addr.add_lit, Nat.add_assoc]; exact (SR.ptr _ _ mi hm).vr
  · cases hv
theorem V1s.get {l : List AVal} {r : List Value} (h : V1s m l r) {i : Nat} (hv : l[i]? = some v) : ∃ x, r[i]? = some x ∧ V1 m v x := by
  induction l generalizing r i with
  | nil => simp at hv
  | cons u l ih => cases h with
    | cons _ x _ r h hs => cases i with
      | zero => simp at hv; subst hv; exact ⟨x, rfl, h⟩
      | succ i => simp at hv; simpa using ih hs hv
theorem sim_extract {i : Nat} {x : Operand} {y : Opd} (hT : TR m T a.tmps) (hx : copd x = some y) (hv : qExtract i y T σ = some v) :
    QRuns P a.eval ⟨dst, .extract x i, type, pos, after, guard⟩ w m v := by
  have hx' := copd_ok hT hx
  unfold qExtract vExtract at hv
  split at hv
  · rename_i vs hn1
    rw [hn1] at hx'
    obtain ⟨ys, e1, hs⟩ := hx'.tup'
    rw [nthV_eq] at hv
    obtain ⟨z, hz, h1⟩ := hs.get hv
    have : ys[i]? = some z := by rw [← Array.getElem?_toList]; exact hz
    exact ⟨z, by simp [execOp, e1, Instr.extract, this], .v1 _ _ h1⟩
  · cases hv

/-! Structs, arrays and slices built of their parts. -/
theorem foldl_put (new : List Value) (off : Nat) (cs : Array Value) : ∀ (j : Nat),
    (new.zipIdx j).foldl (fun cs (p : Value × Nat) => cs.setIfInBounds (off + p.2) p.1) cs = ((new.zipIdx 0).foldl (fun cs (p : Value × Nat) => cs.setIfInBounds (off + j + p.2) p.1) cs) := by
  induction new generalizing cs off with
  | nil => intro j; rfl
  | cons v new ih =>
    intro j
    simp only [List.zipIdx_cons, List.foldl_cons, Nat.add_zero, Nat.zero_add]
    rw [ih, ih (off + j)]
    congr 1
theorem setAll_eq : ∀ (new : List Value) (off : Nat) (cs : Array Value), off + new.length ≤ cs.size →
    ((new.zipIdx 0).foldl (fun cs (p : Value × Nat) => cs.setIfInBounds (off + p.2) p.1) cs).toList = cs.toList.take off ++ new ++ cs.toList.drop (off + new.length)
  | [], off, cs, _ => by simp
  | v :: new, off, cs, h => by
    simp only [List.zipIdx_cons, List.foldl_cons, Nat.add_zero, Nat.zero_add]
    rw [foldl_put new off _ 1, setAll_eq new (off + 1) _ (by simp at h ⊢; omega)]
    simp only [Array.toList_setIfInBounds, List.length_cons] at h ⊢
    have hlt : off < cs.toList.length := by simp; omega
    apply List.ext_getElem?
    intro i
    simp only [List.append_assoc, List.getElem?_append, List.getElem?_take, List.length_take, List.length_set, List.getElem?_set, List.getElem?_drop, List.length_cons]
    have h1 : min (off + 1) cs.toList.length = off + 1 := by omega
    have h2 : min off cs.toList.length = off := by omega
    simp only [h1, h2]
    by_cases c1 : i < off
    · have : i < off + 1 := by omega
      have h3 : ¬ off = i := by omega
      simp [c1, this, h3]
    · by_cases c2 : i = off
      · subst c2; have c6 : i < cs.size := by omega
        simp [c6]
      · have c3 : ¬ i < off + 1 := by omega
        simp only [c1, c3, if_false]
        obtain ⟨k, rfl⟩ : ∃ k, i = off + 1 + k := ⟨i - (off + 1), by omega⟩
        have e1 : off + 1 + k - (off + 1) = k := by omega
        have e2 : off + 1 + k - off = k + 1 := by omega
        simp only [e1, e2]
        by_cases c4 : k < new.length
        · simp [c4]
        · have c5 : ¬ (k + 1 < new.length + 1) := by omega
          simp only [c4, c5, if_false]
          have e3 : k + 1 - (new.length + 1) = k - new.length := by omega
          rw [e3]
          have h6 : ¬ off = off + 1 + new.length + (k - new.length) := by omega
          simp only [h6, if_false]
          congr 1; omega
theorem SRs.putAll {cells new : List AVal} {cs : Array Value} {xs : Array Value} {off : Nat} {r : List AVal} (hc : SRs m cells cs.toList) (hx : SRs m new xs.toList)
    (h : putN off new cells = some r) : off + xs.size ≤ cs.size ∧
      SRs m r (xs.zipIdx.foldl (fun cs (p : Value × Nat) => cs.setIfInBounds (off + p.2) p.1) cs).toList := by
  obtain ⟨h1, rfl⟩ := putN_eq.1 h
  have l1 := hc.length; have l2 := hx.length
  simp at l1 l2
  have hle : off + xs.toList.length ≤ cs.size := by simp; omega
  refine ⟨by simpa using hle, ?_⟩
  have e : xs.zipIdx.foldl (fun cs (p : Value × Nat) => cs.setIfInBounds (off + p.2) p.1) cs = (xs.toList.zipIdx 0).foldl (fun cs (p : Value × Nat) => cs.setIfInBounds (off + p.2) p.1) cs := by
    rw [← Array.foldl_toList, Array.toList_zipIdx]
  rw [e, setAll_eq _ _ _ hle]
  refine ((hc.take off).append hx).append ?_
  rw [show off + xs.toList.length = off + new.length by simp; omega]
  exact hc.drop _
theorem fill_run {place : Nat → Option (Nat × Nat)} {parts : List (Nat × Operand)} {ps : List (Nat × Nat × Opd)} {cells r : List AVal} {cs : Array Value} (hT : TR m T a.tmps)
    (hp : cparts place parts = some ps) (hc : SRs m cells cs.toList) (h : fillA cells (evParts T ps) = some r) :
    ∃ out : Array Value, Instr.fill place cs (parts.map fun p => (p.1, a.eval p.2)) = some out ∧ SRs m r out.toList := by
  induction parts generalizing ps cells cs with
  | nil => cases hp; simp only [evParts, fillA] at h; cases h; exact ⟨cs, rfl, hc⟩
  | cons p parts ih =>
    obtain ⟨i, x⟩ := p
    unfold cparts at hp
    split at hp
    · rename_i o n y l h1 h2 h3
      cases hp
      simp only [evParts, fillA] at h
      obtain ⟨new, hnew, h⟩ := andThen_eq.1 h
      obtain ⟨hsz, h⟩ := test_eq.1 h
      obtain ⟨cells', hput, h⟩ := andThen_eq.1 h
      have hsz := Nat.eq_of_beq_eq_true hsz
      rw [lenN_eq] at hsz
      have hs := (copd_ok hT h2).cells hnew
      have hl := hs.length
      simp at hl
      obtain ⟨hle, hc'⟩ := hc.putAll hs hput
      obtain ⟨out, ho, hr⟩ := ih h3 hc' h
      refine ⟨out, ?_, hr⟩
      simp only [List.map_cons, Instr.fill, h1]
      have c1 : ¬ ((a.eval x).cells.size ≠ n || o + (a.eval x).cells.size > cs.size) = true := by
        simp; omega
      have c2 : (((a.eval x).cells.size != n) || decide (o + (a.eval x).cells.size > cs.size)) = false := by simp; omega
      have c1' : ((decide ((a.eval x).cells.size ≠ n) || decide (o + (a.eval x).cells.size > cs.size))) = false := by simp; omega
      rw [c1']
      exact ho
    · cases hp
theorem czero_run {t : TypeId} {z : List AVal} (h : czero P t = some z) : ∃ x : Value, (zeroValue t).run P w = .ok x w ∧ SRs m z x.cells.toList ∧ (∀ i, P.info? t = some i → i.zero = some x) := by
  unfold czero at h
  split at h
  · rename_i i hi
    split at h
    · rename_i x hz
      exact ⟨x, by simp [zeroValue, typeInfo, hi, hz], cvals_ok h, fun j hj => by rw [hi] at hj; cases hj; exact hz⟩
    · cases h
  · cases h
theorem fields_run {fs : Array Field} (h : (fs.all fun (f : Field) => (csize P f.type).isSome) = true) :
    (fs.mapM fun (f : Field) => (do pure (f.offset, ← sizeOf f.type) : Sem (Nat × Nat))).run P w = .ok (fs.map fun (f : Field) => (f.offset, (csize P f.type).getD 0)) w := by
  rw [Array.mapM_eq_mapM_toList]
  have : ∀ l : List Field, (∀ f ∈ l, (csize P f.type).isSome = true) → (l.mapM fun (f : Field) => (do pure (f.offset, ← sizeOf f.type) : Sem (Nat × Nat))).run P w = .ok (l.map fun (f : Field) => (f.offset, (csize P f.type).getD 0)) w := by
    intro l
    induction l with
    | nil => intro _; rfl
    | cons f l ih =>
      intro hl
      obtain ⟨n, hn⟩ := Option.isSome_iff_exists.1 (hl f List.mem_cons_self)
      have := ih (fun g hg => hl g (List.mem_cons_of_mem _ hg))
      simp only [List.mapM_cons, Sem.run_bind, sizeOf_run hn, Result.andThen_ok, Sem.run_pure, this, List.map_cons, hn, Option.getD_some]
  have h2 := this fs.toList (fun f hf => Array.all_eq_true_iff_forall_mem.1 h f (Array.mem_toList_iff.1 hf))
  simp only [Sem.run_map, h2, Result.andThen_ok]
  congr 1
  rw [← Array.toList_map]
theorem sim_buildS {t : TypeId} {fs : Array Field} {parts : Array (Nat × Operand)} {z : List AVal} {ps : List (Nat × Nat × Opd)} (ht : P.underlying t = some (.struct fs)) (hz : czero P t = some z)
    (hf : (fs.all fun (f : Field) => (csize P f.type).isSome) = true) (hp : cparts (fun i => (fs[i]?).bind fun (f : Field) => (csize P f.type).map fun n => (f.offset, n)) parts.toList = some ps)
    (hT : TR m T a.tmps) (hv : qBuild z ps T σ = some v) : QRuns P a.eval ⟨dst, .build t parts, type, pos, after, guard⟩ w m v := by
  unfold qBuild at hv
  obtain ⟨cs, hcs, hv⟩ := andThen_eq.1 hv
  rw [forces_eq] at hv; cases hv
  obtain ⟨x, hx, hs, _⟩ := czero_run (P := P) (w := w) (m := m) hz
  obtain ⟨out, ho, hr⟩ := fill_run hT hp hs hcs
  refine ⟨.agg out, ?_, .v1 _ _ (.agg _ _ hr)⟩
  have hpl : (fun (i : Nat) => (fs.map fun (f : Field) => (f.offset, (csize P f.type).getD 0))[i]?) = fun (i : Nat) => (fs[i]?).bind fun (f : Field) => (csize P f.type).map fun n => (f.offset, n) := by
    funext i
    rw [Array.getElem?_map]
    cases hi : fs[i]? with
    | none => rfl
    | some f =>
      obtain ⟨n, hn⟩ := Option.isSome_iff_exists.1 (Array.all_eq_true_iff_forall_mem.1 hf f (Array.mem_of_getElem? hi))
      simp [hn]
  have hfl : (parts.map fun (i, x) => (i, a.eval x)).toList = parts.toList.map fun p => (p.1, a.eval p.2) := by rw [Array.toList_map]
  simp only [execOp, Instr.build, Sem.run_bind, hx, Result.andThen_ok, run_underlying ht, fields_run hf]
  rw [hfl, hpl, ho]; rfl
theorem sim_buildA {t e : TypeId} {k n : Nat} {parts : Array (Nat × Operand)} {z : List AVal} {ps : List (Nat × Nat × Opd)} (ht : P.underlying t = some (.array k e)) (hz : czero P t = some z)
    (hn : csize P e = some n) (hp : cparts (fun i => some (i * n, n)) parts.toList = some ps)
    (hT : TR m T a.tmps) (hv : qBuild z ps T σ = some v) : QRuns P a.eval ⟨dst, .build t parts, type, pos, after, guard⟩ w m v := by
  unfold qBuild at hv
  obtain ⟨cs, hcs, hv⟩ := andThen_eq.1 hv
  rw [forces_eq] at hv; cases hv
  obtain ⟨x, hx, hs, _⟩ := czero_run (P := P) (w := w) (m := m) hz
  obtain ⟨out, ho, hr⟩ := fill_run hT hp hs hcs
  refine ⟨.agg out, ?_, .v1 _ _ (.agg _ _ hr)⟩
  have hfl : (parts.map fun (i, x) => (i, a.eval x)).toList = parts.toList.map fun p => (p.1, a.eval p.2) := by rw [Array.toList_map]
  simp only [execOp, Instr.build, Sem.run_bind, hx, Result.andThen_ok, run_underlying ht, sizeOf_run hn]
  rw [hfl, ho]; rfl
/-- A built-in function's answer. -/
theorem builtin_run {c : Call} {b : Builtin} (hc : c.callee = .builtin b) : (execOp a.eval ⟨dst, .call c, type, pos, after, guard⟩).run P w =
    (builtin b c.argTypes type (c.args.map fun | .const _ => true | _ => false) (c.args.map a.eval)).run P w := by
  simp only [execOp, resolve, hc, pure_bind]; rfl
theorem sim_len {c : Call} (hc : c.callee = .builtin .len) {x : Value} (h : (Builtin.len_ c.argTypes type (c.args.map a.eval)).run P w = .ok x w) (hv : VR m v x) :
    QRuns P a.eval ⟨dst, .call c, type, pos, after, guard⟩ w m v := by
  refine ⟨x, ?_, hv⟩
  rw [builtin_run hc]
  simp [builtin, h]
theorem args_one {c : Call} {x : Operand} (h : c.args.toList = [x]) : c.args.map a.eval = #[a.eval x] := by
  have : c.args = #[x] := by rw [← Array.toArray_toList (xs := c.args), h]
  rw [this]; simp
theorem types_one {c : Call} {x : TypeId} (h : c.argTypes.toList = [x]) : c.argTypes = #[x] := by rw [← Array.toArray_toList (xs := c.argTypes), h]
theorem sim_lenStr {c : Call} {t : TypeId} {x : Operand} {y : Opd} (hc : c.callee = .builtin .len) (h1 : c.argTypes.toList = [t]) (h2 : c.args.toList = [x]) (ht : P.underlying t = some .string)
    (hT : TR m T a.tmps) (hx : copd x = some y) (hv : qLenStr y T σ = some v) : QRuns P a.eval ⟨dst, .call c, type, pos, after, guard⟩ w m v := by
  have hx' := copd_ok hT hx
  unfold qLenStr vLenStr at hv
  split at hv
  · rename_i s hn
    rw [hn] at hx'
    obtain ⟨b, e1, rfl⟩ := hx'.str
    rw [outI_eq, lenS_eq, size_map] at hv; cases hv
    refine sim_len hc (x := goInt b.size) ?_ (SR.int _ _).vr
    rw [types_one h1, args_one h2, e1]; exact run_len_string w t type b ht
  · cases hv
theorem sim_lenSl {c : Call} {t e : TypeId} {x : Operand} {y : Opd} (hc : c.callee = .builtin .len) (h1 : c.argTypes.toList = [t]) (h2 : c.args.toList = [x]) (ht : P.underlying t = some (.slice e))
    (hT : TR m T a.tmps) (hx : copd x = some y) (hv : qLenSl y T σ = some v) : QRuns P a.eval ⟨dst, .call c, type, pos, after, guard⟩ w m v := by
  have hx' := copd_ok hT hx
  have fin : ∀ b l k, a.eval x = .slice b l k → v = .int .i64 (Int.ofNat l) → QRuns P a.eval ⟨dst, .call c, type, pos, after, guard⟩ w m v := by
    intro b l k e1 e2
    subst e2
    refine sim_len hc (x := goInt l) ?_ (SR.int _ _).vr
    rw [types_one h1, args_one h2, e1]; simp [Builtin.len_, run_underlying ht]
  unfold qLenSl vLenSl at hv
  split at hv
  · rename_i hn; rw [hn] at hx'; cases hv; exact fin _ _ _ hx'.nsl rfl
  · rename_i hn; rw [hn] at hx'; cases hv; obtain ⟨mi, hm, _, e1⟩ := hx'.sl; exact fin _ _ _ e1 rfl
  · rename_i hn; rw [hn] at hx'; cases hv; obtain ⟨mi, off, cap, hm, _, _, _, e1⟩ := hx'.slu; exact fin _ _ _ e1 rfl
  · cases hv
theorem sim_lenK {c : Call} {t : TypeId} {n : Nat} {x : Operand} (hc : c.callee = .builtin .len) (h1 : c.argTypes.toList = [t]) (h2 : c.args.toList = [x])
    (ht : (∃ e, P.underlying t = some (.array n e)) ∨ ∃ r e, P.underlying t = some (.pointer r) ∧ P.underlying r = some (.array n e))
    (hv : qLenK n T σ = some v) : QRuns P a.eval ⟨dst, .call c, type, pos, after, guard⟩ w m v := by
  cases hv
  refine sim_len hc (x := goInt n) ?_ (SR.int _ _).vr
  rw [types_one h1, args_one h2]
  rcases ht with ⟨e, h⟩ | ⟨r, e, h, h'⟩
  · simp [Builtin.len_, run_underlying h]
  · simp [Builtin.len_, run_underlying h, run_underlying h']
theorem sim_cap {c : Call} {t e : TypeId} {x : Operand} {y : Opd} (hc : c.callee = .builtin .cap) (h1 : c.argTypes.toList = [t]) (h2 : c.args.toList = [x]) (ht : P.underlying t = some (.slice e))
    (hT : TR m T a.tmps) (hx : copd x = some y) (hv : qCapSl y T σ = some v) : QRuns P a.eval ⟨dst, .call c, type, pos, after, guard⟩ w m v := by
  have hx' := copd_ok hT hx
  have fin : ∀ b l k, a.eval x = .slice b l k → v = .int .i64 (Int.ofNat k) → QRuns P a.eval ⟨dst, .call c, type, pos, after, guard⟩ w m v := by
    intro b l k e1 e2
    subst e2
    refine ⟨goInt k, ?_, (SR.int _ _).vr⟩
    rw [builtin_run hc, types_one h1, args_one h2, e1]; simp [builtin, Builtin.cap_, run_underlying ht]
  unfold qCapSl vCapSl at hv
  split at hv
  · rename_i hn; rw [hn] at hx'; cases hv; exact fin _ _ _ hx'.nsl rfl
  · rename_i hn; rw [hn] at hx'; cases hv; obtain ⟨mi, hm, _, e1⟩ := hx'.sl; exact fin _ _ _ e1 rfl
  · cases hv
theorem max_run {v0 : AVal} {l : List AVal} {x : Value} {r : List Value} (h : maxA v0 l = some v) (hx : VR m v0 x) (hr : VRs m l r) : ∃ z, (r.foldlM Builtin.max2 x).run P w = .ok z w ∧ VR m v z := by
  induction l generalizing v0 x r with
  | nil => cases hr; simp only [maxA] at h; cases h; exact ⟨x, rfl, hx⟩
  | cons u l ih => cases hr with
    | cons _ y _ r hy hs =>
      unfold maxA at h
      split at h
      · rename_i k q
        split at h
        · rename_i k' q'
          have e1 := hx.int; have e2 := hy.int
          subst e1; subst e2
          have step : (Builtin.max2 (.int k q) (.int k' q')).run P w = .ok (.int k (if q' > q then q' else q)) w := rfl
          split at h
          · rename_i hlt
            have hlt := ilt_iff.1 hlt
            obtain ⟨z, h1, h2⟩ := ih h (SR.int k q').vr hs
            refine ⟨z, ?_, h2⟩
            simp only [List.foldlM_cons, Sem.run_bind, step, Result.andThen_ok, if_pos (show q' > q from hlt)]; exact h1
          · rename_i hlt
            have hlt' : ¬ q' > q := fun h' => by rw [ilt_iff.2 h'] at hlt; cases hlt
            obtain ⟨z, h1, h2⟩ := ih h (SR.int k q).vr hs
            refine ⟨z, ?_, h2⟩
            simp only [List.foldlM_cons, Sem.run_bind, step, Result.andThen_ok, if_neg hlt']; exact h1
        · cases h
      · cases h
theorem min_run {v0 : AVal} {l : List AVal} {x : Value} {r : List Value} (h : minA v0 l = some v) (hx : VR m v0 x) (hr : VRs m l r) : ∃ z, (r.foldlM Builtin.min2 x).run P w = .ok z w ∧ VR m v z := by
  induction l generalizing v0 x r with
  | nil => cases hr; simp only [minA] at h; cases h; exact ⟨x, rfl, hx⟩
  | cons u l ih => cases hr with
    | cons _ y _ r hy hs =>
      unfold minA at h
      split at h
      · rename_i k q
        split at h
        · rename_i k' q'
          have e1 := hx.int; have e2 := hy.int
          subst e1; subst e2
          have step : (Builtin.min2 (.int k q) (.int k' q')).run P w = .ok (.int k (if q' < q then q' else q)) w := rfl
          split at h
          · rename_i hlt
            have hlt := ilt_iff.1 hlt
            obtain ⟨z, h1, h2⟩ := ih h (SR.int k q').vr hs
            refine ⟨z, ?_, h2⟩
            simp only [List.foldlM_cons, Sem.run_bind, step, Result.andThen_ok, if_pos (show q' < q from hlt)]; exact h1
          · rename_i hlt
            have hlt' : ¬ q' < q := fun h' => by rw [ilt_iff.2 h'] at hlt; cases hlt
            obtain ⟨z, h1, h2⟩ := ih h (SR.int k q).vr hs
            refine ⟨z, ?_, h2⟩
            simp only [List.foldlM_cons, Sem.run_bind, step, Result.andThen_ok, if_neg hlt']; exact h1
        · cases h
      · cases h
theorem sim_max {c : Call} {x : Operand} {xs : List Operand} {y : Opd} {ys : List Opd} (hc : c.callee = .builtin .max) (h2 : c.args.toList = x :: xs)
    (hT : TR m T a.tmps) (hx : copd x = some y) (hxs : copds xs = some ys) (hv : qMaxI y ys T σ = some v) : QRuns P a.eval ⟨dst, .call c, type, pos, after, guard⟩ w m v := by
  obtain ⟨z, h3, h4⟩ := max_run (P := P) (w := w) hv (copd_ok hT hx) (copds_ok hT hxs)
  refine ⟨z, ?_, h4⟩
  rw [builtin_run hc]
  simp [builtin, Builtin.max_, Array.toList_map, h2, h3]
theorem sim_min {c : Call} {x : Operand} {xs : List Operand} {y : Opd} {ys : List Opd} (hc : c.callee = .builtin .min) (h2 : c.args.toList = x :: xs)
    (hT : TR m T a.tmps) (hx : copd x = some y) (hxs : copds xs = some ys) (hv : qMinI y ys T σ = some v) : QRuns P a.eval ⟨dst, .call c, type, pos, after, guard⟩ w m v := by
  obtain ⟨z, h3, h4⟩ := min_run (P := P) (w := w) hv (copd_ok hT hx) (copds_ok hT hxs)
  refine ⟨z, ?_, h4⟩
  rw [builtin_run hc]
  simp [builtin, Builtin.min_, Array.toList_map, h2, h3]
theorem scals_ok {l r : List AVal} {xs : List Value} (h : scals l = some r) (hx : VRs m l xs) : SRs m r xs := by
  induction l generalizing r xs with
  | nil => cases hx; simp only [scals] at h; cases h; exact .nil
  | cons u l ih => cases hx with
    | cons _ x _ xs hh hs =>
      cases hh with
      | v1 _ _ hh => cases hh with
        | one _ _ hh =>
          have : andThen (scals l) (fun l => some (u :: l)) = some r := by cases hh <;> exact h
          obtain ⟨l', h1, h2⟩ := andThen_eq.1 this
          cases h2
          exact .cons _ _ _ _ hh (ih h1 hs)
        | agg _ _ _ => simp [scals] at h
      | tup _ _ _ => simp [scals] at h
theorem sim_mkFunc {f : FuncId} {first caps : Array Operand} {ys : List Opd} (h0 : first.isEmpty = true) (hT : TR m T a.tmps) (hxs : copds caps.toList = some ys) (hv : qMkFunc f ys T σ = some v) :
    QRuns P a.eval ⟨dst, .makeFunc (.func f) first caps, type, pos, after, guard⟩ w m v := by
  unfold qMkFunc at hv
  obtain ⟨l, hl, hv⟩ := andThen_eq.1 hv
  cases hv
  have hs := scals_ok hl (copds_ok hT hxs)
  have e : first = #[] := by simpa using h0
  subst e
  refine ⟨.func (.func f) #[] (caps.map a.eval), by simp [execOp, Instr.makeFunc], (SR.func _ _ _ ?_).vr⟩
  rw [Array.toList_map]; exact hs
end
end Go.Am
