/-
  The operations that change nothing: fields, elements, structs, lengths. Conditions: none.
-/
import Derived.Test.YtdolmkdbpnlegaaGreatDoorK7
import Derived.Lib.Bytealg
namespace Go.Am
section
variable {P : Program} {w0 w : World} {m : Mp} {σ : S} {T : Tm} {a : Act} {v : AVal} {dst : Option Tmp} {type : TypeId} {pos : String} {after : Array Edge} {guard : Option (Nat × Bool)}
theorem ixOf_run {x : AVal} {z : Value} {n j : Nat} (h : ixOf x n = some j) (hx : VR m x z) : ∃ k, z = .int k (Int.ofNat j) ∧ j < n := by
  unfold ixOf at h
  split at h
  · split at h
    · split at h
      · rename_i hle; cases h; exact ⟨_, hx.int, Nat.le_of_ble_eq_true hle⟩
      · cases h
    · cases h
  · cases h
theorem sim_fieldAddr {t : TypeId} {f : Nat} {fs : Array Field} {fd : Field} {n : Nat} {x : Operand} {y : Opd} (ht : P.underlying t = some (.struct fs)) (hf : fs[f]? = some fd) (hn : csize P fd.type = some n)
    (h0 : n ≠ 0) (hT : TR m T a.tmps) (hx : copd x = some y) (hv : qFieldAddr fd.offset y T σ = some v) : QRuns P a.eval ⟨dst, .fieldAddr t x f, type, pos, after, guard⟩ w m v := by
  have hx' := copd_ok hT hx
  unfold qFieldAddr vFieldAddr at hv
  split at hv
  · rename_i b o hn1
    rw [hn1] at hx'
    obtain ⟨mi, hm, e1⟩ := hx'.ptr
    rw [outPtr_eq] at hv; cases hv
    refine ⟨.pointer (some ⟨mi.c, mi.base + (o + fd.offset), none⟩), ?_, (SR.ptr _ _ mi hm).vr⟩
    simp [execOp, e1, Instr.fieldAt, run_underlying ht, hf, Instr.sureAddr, fieldPlace, sizeOf_run hn, h0, Addr.add_lit, Nat.add_assoc]
  · cases hv
theorem vPart_run {t : TypeId} {off n : Nat} {cs : List AVal} {ys : Array Value} (hu : (P.underlying t).isSome = true) (hn : csize P t = some n) (hs : SRs m cs ys.toList)
    (h : vPart off n (isAggB P t) (.agg cs) = some v) : ∃ z, (part t ys off).run P w = .ok z w ∧ VR m v z := by
  unfold vPart at h
  simp only at h
  unfold part
  cases ha : isAggB P t with
  | true =>
    rw [ha] at h
    simp only at h
    obtain ⟨r, hr, h⟩ := andThen_eq.1 h
    cases h
    rw [dropN_eq] at hr
    obtain ⟨h1, rfl⟩ := takeN_eq.1 hr
    refine ⟨.agg (ys.extract off (off + n)), by simp [isAggB_run t hu, ha, sizeOf_run hn], .v1 _ _ (.agg _ _ ?_)⟩
    rw [Array.toList_extract, List.extract_eq_take_drop, Nat.add_sub_cancel_left]
    exact (hs.drop off).take n
  | false =>
    rw [ha] at h
    simp only at h
    rw [nthV_eq] at h
    obtain ⟨z, hz, hs'⟩ := hs.get h
    refine ⟨z, ?_, hs'.vr⟩
    have : ys[off]? = some z := by rw [← Array.getElem?_toList]; exact hz
    simp [isAggB_run t hu, ha, this]
theorem sim_field {t : TypeId} {f : Nat} {fs : Array Field} {fd : Field} {n : Nat} {x : Operand} {y : Opd} (ht : P.underlying t = some (.struct fs)) (hf : fs[f]? = some fd) (hn : csize P fd.type = some n)
    (hu : (P.underlying fd.type).isSome = true) (hT : TR m T a.tmps) (hx : copd x = some y) (hv : qField fd.offset n (isAggB P fd.type) y T σ = some v) :
    QRuns P a.eval ⟨dst, .field t x f, type, pos, after, guard⟩ w m v := by
  have hx' := copd_ok hT hx
  unfold qField at hv
  revert hv hx'
  generalize y.ev T = u
  intro hv hx'
  cases u with
  | agg cs =>
    obtain ⟨ys, e1, hs⟩ := hx'.agg
    obtain ⟨z, h1, h2⟩ := vPart_run (P := P) (w := w) hu hn hs hv
    exact ⟨z, by simp [execOp, e1, Instr.field, run_underlying ht, hf, asAgg, h1], h2⟩
  | _ => simp [vPart] at hv
theorem sim_idxAgg {t e : TypeId} {k n : Nat} {x i : Operand} {x' i' : Opd} (ht : P.underlying t = some (.array k e)) (hn : csize P e = some n)
    (hu : (P.underlying e).isSome = true) (hT : TR m T a.tmps) (hx : copd x = some x') (hi : copd i = some i') (hv : qIdxAgg k n (isAggB P e) x' i' T σ = some v) :
    QRuns P a.eval ⟨dst, .index t x i, type, pos, after, guard⟩ w m v := by
  have hx' := copd_ok hT hx
  have hi' := copd_ok hT hi
  unfold qIdxAgg vIdxAgg at hv
  split at hv
  · rename_i cs hn1
    rw [hn1] at hx'
    obtain ⟨ys, e1, hs⟩ := hx'.agg
    obtain ⟨j, hj, hv⟩ := andThen_eq.1 hv
    obtain ⟨q, e2, hlt⟩ := ixOf_run hj hi'
    obtain ⟨z, h1, h2⟩ := vPart_run (P := P) (w := w) hu hn hs hv
    refine ⟨z, ?_, h2⟩
    have c1 : (0 : Int) ≤ Int.ofNat j ∧ Int.ofNat j < (k : Int) := ⟨Int.natCast_nonneg j, Int.ofNat_lt.2 hlt⟩
    simp only [execOp, e1, e2, Instr.index, asIntOf, pure_bind, Sem.run_bind, run_underlying ht, Result.andThen_ok, c1, and_self, if_true, sizeOf_run hn]
    show ((part e ys (j * n)).run P w).andThen _ = _
    rw [h1]; rfl
  · cases hv
theorem natsAt_eq (n : Nat) (s : List Nat) : natsAt n s = s[n]? := by
  induction s generalizing n with
  | nil => simp [natsAt]
  | cons c s ih => cases n with
    | zero => simp [natsAt]
    | succ n => simp [natsAt, ih]
theorem sim_idxStr {t : TypeId} {x i : Operand} {x' i' : Opd} (ht : P.underlying t = some .string) (hT : TR m T a.tmps) (hx : copd x = some x') (hi : copd i = some i') (hv : qIdxStr x' i' T σ = some v) :
    QRuns P a.eval ⟨dst, .index t x i, type, pos, after, guard⟩ w m v := by
  have hx' := copd_ok hT hx
  have hi' := copd_ok hT hi
  unfold qIdxStr vIdxStr at hv
  split at hv
  · rename_i s hn1
    rw [hn1] at hx'
    obtain ⟨b, e1, rfl⟩ := hx'.str
    split at hv
    · rename_i k q hn2
      rw [hn2] at hi'
      split at hv
      · rename_i j
        obtain ⟨c, hc, hv⟩ := andThen_eq.1 hv
        cases hv
        rw [natsAt_eq] at hc
        have hlt : j < b.size := by
          have := (List.getElem?_eq_some_iff.1 hc).1; rwa [size_map] at this
        have hbyte : c = (b[j]'hlt).toNat := by
          have h2 := (List.getElem?_eq_some_iff.1 hc).2
          simp only [List.getElem_map, Array.getElem_toList] at h2
          exact h2.symm
        refine ⟨.int .u8 (Int.ofNat c), ?_, (SR.int _ _).vr⟩
        have c1 : (0 : Int) ≤ Int.ofNat j ∧ Int.ofNat j < (b.size : Int) := ⟨Int.natCast_nonneg j, Int.ofNat_lt.2 hlt⟩
        simp only [execOp, e1, hi'.int, Sem.run_bind, run_index_string w t b k (Int.ofNat j) ht, dif_pos c1, Result.andThen_ok, hbyte]
        rfl
      · cases hv
    · cases hv
  · cases hv
theorem sim_ixArr {t e : TypeId} {k n : Nat} {x i : Operand} {x' i' : Opd} (ht : P.underlying t = some (.array k e)) (hn : csize P e = some n)
    (hT : TR m T a.tmps) (hx : copd x = some x') (hi : copd i = some i') (hv : qIxArr k n x' i' T σ = some v) :
    QRuns P a.eval ⟨dst, .indexAddr t x i, type, pos, after, guard⟩ w m v := by
  have hx' := copd_ok hT hx
  have hi' := copd_ok hT hi
  unfold qIxArr vIxArr at hv
  split at hv
  · rename_i b o hn1
    rw [hn1] at hx'
    obtain ⟨mi, hm, e1⟩ := hx'.ptr
    obtain ⟨j, hj, hv⟩ := andThen_eq.1 hv
    obtain ⟨q, e2, hlt⟩ := ixOf_run hj hi'
    rw [outPtr_eq] at hv; cases hv
    have c1 : (0 : Int) ≤ Int.ofNat j ∧ Int.ofNat j < (k : Int) := ⟨Int.natCast_nonneg j, Int.ofNat_lt.2 hlt⟩
    refine ⟨.pointer (some ⟨mi.c, mi.base + (o + j * n), none⟩), ?_, (SR.ptr _ _ mi hm).vr⟩
    simp only [execOp, e1, e2, Instr.indexAt, asIntOf, pure_bind, Sem.run_bind, run_underlying ht, Result.andThen_ok, Instr.sureAddr, Sem.run_pure, c1, and_self, if_true, sizeOf_run hn, Addr.add_lit]
    show Result.ok (Next.value (Value.pointer (some ⟨mi.c, mi.base + o + j * n, none⟩))) w = _
    rw [Nat.add_assoc]
  · rename_i g o hn1
    rw [hn1] at hx'
    have e1 := hx'.gp
    obtain ⟨j, hj, hv⟩ := andThen_eq.1 hv
    obtain ⟨q, e2, hlt⟩ := ixOf_run hj hi'
    rw [forceNat_eq] at hv; cases hv
    have c1 : (0 : Int) ≤ Int.ofNat j ∧ Int.ofNat j < (k : Int) := ⟨Int.natCast_nonneg j, Int.ofNat_lt.2 hlt⟩
    refine ⟨.pointer (some ⟨g, o + j * n, none⟩), ?_, (SR.gp g _).vr⟩
    simp only [execOp, e1, e2, Instr.indexAt, asIntOf, pure_bind, Sem.run_bind, run_underlying ht, Result.andThen_ok, Instr.sureAddr, Sem.run_pure, c1, and_self, if_true, sizeOf_run hn, Addr.add_lit]
    rfl
  · cases hv
theorem ixSl_run {t e : TypeId} {n : Nat} {x i : Operand} {b : Addr} {len cap j : Nat} {q : IntKind} (ht : P.underlying t = some (.slice e)) (hn : csize P e = some n)
    (e1 : a.eval x = .slice (some b) len cap) (e2 : a.eval i = .int q (Int.ofNat j)) (hlt : j < len) :
    (execOp a.eval ⟨dst, .indexAddr t x i, type, pos, after, guard⟩).run P w = .ok (.value (.pointer (some (b.add (j * n))))) w := by
  have c1 : (0 : Int) ≤ Int.ofNat j ∧ Int.ofNat j < (len : Int) := ⟨Int.natCast_nonneg j, Int.ofNat_lt.2 hlt⟩
  simp only [execOp, e1, e2, Instr.indexAt, asIntOf, pure_bind, Sem.run_bind, run_underlying ht, Result.andThen_ok, Sem.run_pure, c1, and_self, if_true, sizeOf_run hn]
  rfl
theorem sim_ixSl {t e : TypeId} {n : Nat} {x i : Operand} {x' i' : Opd} (ht : P.underlying t = some (.slice e)) (hn : csize P e = some n)
    (hT : TR m T a.tmps) (hx : copd x = some x') (hi : copd i = some i') (hv : qIxSl n x' i' T σ = some v) :
    QRuns P a.eval ⟨dst, .indexAddr t x i, type, pos, after, guard⟩ w m v := by
  have hx' := copd_ok hT hx
  have hi' := copd_ok hT hi
  unfold qIxSl vIxSl at hv
  split at hv
  · rename_i b o len cap hn1
    rw [hn1] at hx'
    obtain ⟨mi, hm, _, e1⟩ := hx'.sl
    obtain ⟨j, hj, hv⟩ := andThen_eq.1 hv
    obtain ⟨q, e2, hlt⟩ := ixOf_run hj hi'
    rw [outPtr_eq] at hv; cases hv
    refine ⟨_, ixSl_run ht hn e1 e2 hlt, ?_⟩
    rw [Addr.add_lit, Nat.add_assoc]; exact (SR.ptr _ _ mi hm).vr
  · rename_i b o len z hn1
    rw [hn1] at hx'
    obtain ⟨mi, off, cap, hm, c1, c2, c3, e1⟩ := hx'.slu
    obtain ⟨j, hj, hv⟩ := andThen_eq.1 hv
    obtain ⟨q, e2, hlt⟩ := ixOf_run hj hi'
    rw [outPtr_eq] at hv; cases hv
    refine ⟨_, ixSl_run ht hn e1 e2 hlt, ?_⟩
    have : off = (⟨mi.c, mi.base + o, none⟩ : Addr) := by
      rcases c2 with h | h
      · exact h
      · omega
    rw [this, Addr.add_lit, Nat.add_assoc]; exact (SR.ptr _ _ mi hm).vr
  · cases hv
theorem V1s.get {l : List AVal} {r : List Value} (h : V1s m l r) {i : Nat} (hv : l[i]? = some v) : ∃ x, r[i]? = some x ∧ V1 m v x := by
  induction l generalizing r i with
  | nil => simp at hv
  | cons u l ih => cases h with
    | cons _ x _ r h hs => cases i with
      | zero => simp at hv; subst hv; exact ⟨x, rfl, h⟩
      | succ i => simp at hv; simpa using ih hs hv
theorem sim_extract {i : Nat} {x : Operand} {y : Opd} (hT : TR m T a.tmps) (hx : copd x = some y) (hv : qExtract i y T σ = some v) :
    QRuns P a.eval ⟨dst, .extract x i, type, pos, after, guard⟩ w m v := by
  have hx' := copd_ok hT hx
  unfold qExtract vExtract at hv
  split at hv
  · rename_i vs hn1
    rw [hn1] at hx'
    obtain ⟨ys, e1, hs⟩ := hx'.tup'
    rw [nthV_eq] at hv
    obtain ⟨z, hz, h1⟩ := hs.get hv
    have : ys[i]? = some z := by rw [← Array.getElem?_toList]; exact hz
    exact ⟨z, by simp [execOp, e1, Instr.extract, this], .v1 _ _ h1⟩
  · cases hv

theorem foldl_put (new : List Value) (off : Nat) (cs : Array Value) : ∀ (j : Nat),
    (new.zipIdx j).foldl (fun cs (p : Value × Nat) => cs.setIfInBounds (off + p.2) p.1) cs = ((new.zipIdx 0).foldl (fun cs (p : Value × Nat) => cs.setIfInBounds (off + j + p.2) p.1) cs) := by
  induction new generalizing cs off with
  | nil => intro j; rfl
  | cons v new ih =>
    intro j
    simp only [List.zipIdx_cons, List.foldl_cons, Nat.add_zero, Nat.zero_add]
    rw [ih, ih (off + j)]
    congr 1
theorem setAll_eq : ∀ (new : List Value) (off : Nat) (cs : Array Value), off + new.length ≤ cs.size →
    ((new.zipIdx 0).foldl (fun cs (p : Value × Nat) => cs.setIfInBounds (off + p.2) p.1) cs).toList = cs.toList.take off ++ new ++ cs.toList.drop (off + new.length)
  | [], off, cs, _ => by simp
  | v :: new, off, cs, h => by
    simp only [List.zipIdx_cons, List.foldl_cons, Nat.add_zero, Nat.zero_add]
    rw [foldl_put new off _ 1, setAll_eq new (off + 1) _ (by simp at h ⊢; omega)]
    simp only [Array.toList_setIfInBounds, List.length_cons] at h ⊢
    have hlt : off < cs.toList.length := by simp; omega
    apply List.ext_getElem?
    intro i
    simp only [List.append_assoc, List.getElem?_append, List.getElem?_take, List.length_take, List.length_set, List.getElem?_set, List.getElem?_drop, List.length_cons]
    have h1 : min (off + 1) cs.toList.length = off + 1 := by omega
    have h2 : min off cs.toList.length = off := by omega
    simp only [h1, h2]
    by_cases c1 : i < off
    · have : i < off + 1 := by omega
      have h3 : ¬ off = i := by omega
      simp [c1, this, h3]
    · by_cases c2 : i = off
      · subst c2; have c6 : i < cs.size := by omega
        simp [c6]
      · have c3 : ¬ i < off + 1 := by omega
        simp only [c1, c3, if_false]
        obtain ⟨k, rfl⟩ : ∃ k, i = off + 1 + k := ⟨i - (off + 1), by omega⟩
        have e1 : off + 1 + k - (off + 1) = k := by omega
        have e2 : off + 1 + k - off = k + 1 := by omega
        simp only [e1, e2]
        by_cases c4 : k < new.length
        · simp [c4]
        · have c5 : ¬ (k + 1 < new.length + 1) := by omega
          simp only [c4, c5, if_false]
          have e3 : k + 1 - (new.length + 1) = k - new.length := by omega
          rw [e3]
          have h6 : ¬ off = off + 1 + new.length + (k - new.length) := by omega
          simp only [h6, if_false]
          congr 1; omega
theorem SRs.putAll {cells new : List AVal} {cs : Array Value} {xs : Array Value} {off : Nat} {r : List AVal} (hc : SRs m cells cs.toList) (hx : SRs m new xs.toList)
    (h : putN off new cells = some r) : off + xs.size ≤ cs.size ∧
      SRs m r (xs.zipIdx.foldl (fun cs (p : Value × Nat) => cs.setIfInBounds (off + p.2) p.1) cs).toList := by
  obtain ⟨h1, rfl⟩ := putN_eq.1 h
  have l1 := hc.length; have l2 := hx.length
  simp at l1 l2
  have hle : off + xs.toList.length ≤ cs.size := by simp; omega
  refine ⟨by simpa using hle, ?_⟩
  have e : xs.zipIdx.foldl (fun cs (p : Value × Nat) => cs.setIfInBounds (off + p.2) p.1) cs = (xs.toList.zipIdx 0).foldl (fun cs (p : Value × Nat) => cs.setIfInBounds (off + p.2) p.1) cs := by
    rw [← Array.foldl_toList, Array.toList_zipIdx]
  rw [e, setAll_eq _ _ _ hle]
  refine ((hc.take off).append hx).append ?_
  rw [show off + xs.toList.length = off + new.length by simp; omega]
  exact hc.drop _
theorem fill_run {place : Nat → Option (Nat × Nat)} {parts : List (Nat × Operand)} {ps : List (Nat × Nat × Opd)} {cells r : List AVal} {cs : Array Value} (hT : TR m T a.tmps)
    (hp : cparts place parts = some ps) (hc : SRs m cells cs.toList) (h : fillA cells (evParts T ps) = some r) :
    ∃ out : Array Value, Instr.fill place cs (parts.map fun p => (p.1, a.eval p.2)) = some out ∧ SRs m r out.toList := by
  induction parts generalizing ps cells cs with
  | nil => cases hp; simp only [evParts, fillA] at h; cases h; exact ⟨cs, rfl, hc⟩
  | cons p parts ih =>
    obtain ⟨i, x⟩ := p
    unfold cparts at hp
    split at hp
    · rename_i o n y l h1 h2 h3
      cases hp
      simp only [evParts, fillA] at h
      obtain ⟨new, hnew, h⟩ := andThen_eq.1 h
      obtain ⟨hsz, h⟩ := test_eq.1 h
      obtain ⟨cells', hput, h⟩ := andThen_eq.1 h
      have hsz := Nat.eq_of_beq_eq_true hsz
      rw [lenN_eq] at hsz
      have hs := (copd_ok hT h2).cells hnew
      have hl := hs.length
      simp at hl
      obtain ⟨hle, hc'⟩ := hc.putAll hs hput
      obtain ⟨out, ho, hr⟩ := ih h3 hc' h
      refine ⟨out, ?_, hr⟩
      simp only [List.map_cons, Instr.fill, h1]
      have c1 : ¬ ((a.eval x).cells.size ≠ n || o + (a.eval x).cells.size > cs.size) = true := by
        simp; omega
      have c2 : (((a.eval x).cells.size != n) || decide (o + (a.eval x).cells.size > cs.size)) = false := by simp; omega
      have c1' : ((decide ((a.eval x).cells.size ≠ n) || decide (o + (a.eval x).cells.size > cs.size))) = false := by simp; omega
      rw [c1']
      exact ho
    · cases hp
theorem czero_run {t : TypeId} {z : List AVal} (h : czero P t = some z) : ∃ x : Value, (zeroValue t).run P w = .ok x w ∧ SRs m z x.cells.toList ∧ (∀ i, P.info? t = some i → i.zero = some x) := by
  unfold czero at h
  split at h
  · rename_i i hi
    split at h
    · rename_i x hz
      exact ⟨x, by simp [zeroValue, typeInfo, hi, hz], cvals_ok h, fun j hj => by rw [hi] at hj; cases hj; exact hz⟩
    · cases h
  · cases h
theorem fields_run {fs : Array Field} (h : (fs.all fun (f : Field) => (csize P f.type).isSome) = true) :
    (fs.mapM fun (f : Field) => (do pure (f.offset, ← sizeOf f.type) : Sem (Nat × Nat))).run P w = .ok (fs.map fun (f : Field) => (f.offset, (csize P f.type).getD 0)) w := by
  rw [Array.mapM_eq_mapM_toList]
  have : ∀ l : List Field, (∀ f ∈ l, (csize P f.type).isSome = true) → (l.mapM fun (f : Field) => (do pure (f.offset, ← sizeOf f.type) : Sem (Nat × Nat))).run P w = .ok (l.map fun (f : Field) => (f.offset, (csize P f.type).getD 0)) w := by
    intro l
    induction l with
    | nil => intro _; rfl
    | cons f l ih =>
      intro hl
      obtain ⟨n, hn⟩ := Option.isSome_iff_exists.1 (hl f List.mem_cons_self)
      have := ih (fun g hg => hl g (List.mem_cons_of_mem _ hg))
      simp only [List.mapM_cons, Sem.run_bind, sizeOf_run hn, Result.andThen_ok, Sem.run_pure, this, List.map_cons, hn, Option.getD_some]
  have h2 := this fs.toList (fun f hf => Array.all_eq_true_iff_forall_mem.1 h f (Array.mem_toList_iff.1 hf))
  simp only [Sem.run_map, h2, Result.andThen_ok]
  congr 1
  rw [← Array.toList_map]
theorem sim_buildS {t : TypeId} {fs : Array Field} {parts : Array (Nat × Operand)} {z : List AVal} {ps : List (Nat × Nat × Opd)} (ht : P.underlying t = some (.struct fs)) (hz : czero P t = some z)
    (hf : (fs.all fun (f : Field) => (csize P f.type).isSome) = true) (hp : cparts (fun i => (fs[i]?).bind fun (f : Field) => (csize P f.type).map fun n => (f.offset, n)) parts.toList = some ps)
    (hT : TR m T a.tmps) (hv : qBuild z ps T σ = some v) : QRuns P a.eval ⟨dst, .build t parts, type, pos, after, guard⟩ w m v := by
  unfold qBuild at hv
  obtain ⟨cs, hcs, hv⟩ := andThen_eq.1 hv
  rw [forces_eq] at hv; cases hv
  obtain ⟨x, hx, hs, _⟩ := czero_run (P := P) (w := w) (m := m) hz
  obtain ⟨out, ho, hr⟩ := fill_run hT hp hs hcs
  refine ⟨.agg out, ?_, .v1 _ _ (.agg _ _ hr)⟩
  have hpl : (fun (i : Nat) => (fs.map fun (f : Field) => (f.offset, (csize P f.type).getD 0))[i]?) = fun (i : Nat) => (fs[i]?).bind fun (f : Field) => (csize P f.type).map fun n => (f.offset, n) := by
    funext i
    rw [Array.getElem?_map]
    cases hi : fs[i]? with
    | none => rfl
    | some f =>
      obtain ⟨n, hn⟩ := Option.isSome_iff_exists.1 (Array.all_eq_true_iff_forall_mem.1 hf f (Array.mem_of_getElem? hi))
      simp [hn]
  have hfl : (parts.map fun (i, x) => (i, a.eval x)).toList = parts.toList.map fun p => (p.1, a.eval p.2) := by rw [Array.toList_map]
  simp only [execOp, Instr.build, Sem.run_bind, hx, Result.andThen_ok, run_underlying ht, fields_run hf]
  rw [hfl, hpl, ho]; rfl
theorem sim_buildA {t e : TypeId} {k n : Nat} {parts : Array (Nat × Operand)} {z : List AVal} {ps : List (Nat × Nat × Opd)} (ht : P.underlying t = some (.array k e)) (hz : czero P t = some z)
    (hn : csize P e = some n) (hp : cparts (fun i => some (i * n, n)) parts.toList = some ps)
    (hT : TR m T a.tmps) (hv : qBuild z ps T σ = some v) : QRuns P a.eval ⟨dst, .build t parts, type, pos, after, guard⟩ w m v := by
  unfold qBuild at hv
  obtain ⟨cs, hcs, hv⟩ := andThen_eq.1 hv
  rw [forces_eq] at hv; cases hv
  obtain ⟨x, hx, hs, _⟩ := czero_run (P := P) (w := w) (m := m) hz
  obtain ⟨out, ho, hr⟩ := fill_run hT hp hs hcs
  refine ⟨.agg out, ?_, .v1 _ _ (.agg _ _ hr)⟩
  have hfl : (parts.map fun (i, x) => (i, a.eval x)).toList = parts.toList.map fun p => (p.1, a.eval p.2) := by rw [Array.toList_map]
  simp only [execOp, Instr.build, Sem.run_bind, hx, Result.andThen_ok, run_underlying ht, sizeOf_run hn]
  rw [hfl, ho]; rfl
theorem builtin_run {c : Call} {b : Builtin} (hc : c.callee = .builtin b) : (execOp a.eval ⟨dst, .call c, type, pos, after, guard⟩).run P w =
    (builtin b c.argTypes type (c.args.map fun | .const _ => true | _ => false) (c.args.map a.eval)).run P w := by
  simp only [execOp, resolve, hc, pure_bind]; rfl
theorem sim_len {c : Call} (hc : c.callee = .builtin .len) {x : Value} (h : (Builtin.len_ c.argTypes type (c.args.map a.eval)).run P w = .ok x w) (hv : VR m v x) :
    QRuns P a.eval ⟨dst, .call c, type, pos, after, guard⟩ w m v := by
  refine ⟨x, ?_, hv⟩
  rw [builtin_run hc]
  simp [builtin, h]
theorem args_one {c : Call} {x : Operand} (h : c.args.toList = [x]) : c.args.map a.eval = #[a.eval x] := by
  have : c.args = #[x] := by rw [← Array.toArray_toList (xs := c.args), h]
  rw [this]; simp
theorem types_one {c : Call} {x : TypeId} (h : c.argTypes.toList = [x]) : c.argTypes = #[x] := by rw [← Array.toArray_toList (xs := c.argTypes), h]
theorem sim_lenStr {c : Call} {t : TypeId} {x : Operand} {y : Opd} (hc : c.callee = .builtin .len) (h1 : c.argTypes.toList = [t]) (h2 : c.args.toList = [x]) (ht : P.underlying t = some .string)
    (hT : TR m T a.tmps) (hx : copd x = some y) (hv : qLenStr y T σ = some v) : QRuns P a.eval ⟨dst, .call c, type, pos, after, guard⟩ w m v := by
  have hx' := copd_ok hT hx
  unfold qLenStr vLenStr at hv
  split at hv
  · rename_i s hn
    rw [hn] at hx'
    obtain ⟨b, e1, rfl⟩ := hx'.str
    rw [outI_eq, lenS_eq, size_map] at hv; cases hv
    refine sim_len hc (x := goInt b.size) ?_ (SR.int _ _).vr
    rw [types_one h1, args_one h2, e1]; exact run_len_string w t type b ht
  · cases hv
theorem sim_lenSl {c : Call} {t e : TypeId} {x : Operand} {y : Opd} (hc : c.callee = .builtin .len) (h1 : c.argTypes.toList = [t]) (h2 : c.args.toList = [x]) (ht : P.underlying t = some (.slice e))
    (hT : TR m T a.tmps) (hx : copd x = some y) (hv : qLenSl y T σ = some v) : QRuns P a.eval ⟨dst, .call c, type, pos, after, guard⟩ w m v := by
  have hx' := copd_ok hT hx
  have fin : ∀ b l k, a.eval x = .slice b l k → v = .int .i64 (Int.ofNat l) → QRuns P a.eval ⟨dst, .call c, type, pos, after, guard⟩ w m v := by
    intro b l k e1 e2
    subst e2
    refine sim_len hc (x := goInt l) ?_ (SR.int _ _).vr
    rw [types_one h1, args_one h2, e1]; simp [Builtin.len_, run_underlying ht]
  unfold qLenSl vLenSl at hv
  split at hv
  · rename_i hn; rw [hn] at hx'; cases hv; exact fin _ _ _ hx'.nsl rfl
  · rename_i hn; rw [hn] at hx'; cases hv; obtain ⟨mi, hm, _, e1⟩ := hx'.sl; exact fin _ _ _ e1 rfl
  · rename_i hn; rw [hn] at hx'; cases hv; obtain ⟨mi, off, cap, hm, _, _, _, e1⟩ := hx'.slu; exact fin _ _ _ e1 rfl
  · cases hv
theorem sim_lenK {c : Call} {t : TypeId} {n : Nat} {x : Operand} (hc : c.callee = .builtin .len) (h1 : c.argTypes.toList = [t]) (h2 : c.args.toList = [x])
    (ht : (∃ e, P.underlying t = some (.array n e)) ∨ ∃ r e, P.underlying t = some (.pointer r) ∧ P.underlying r = some (.array n e))
    (hv : qLenK n T σ = some v) : QRuns P a.eval ⟨dst, .call c, type, pos, after, guard⟩ w m v := by
  cases hv
  refine sim_len hc (x := goInt n) ?_ (SR.int _ _).vr
  rw [types_one h1, args_one h2]
  rcases ht with ⟨e, h⟩ | ⟨r, e, h, h'⟩
  · simp [Builtin.len_, run_underlying h]
  · simp [Builtin.len_, run_underlying h, run_underlying h']
theorem sim_cap {c : Call} {t e : TypeId} {x : Operand} {y : Opd} (hc : c.callee = .builtin .cap) (h1 : c.argTypes.toList = [t]) (h2 : c.args.toList = [x]) (ht : P.underlying t = some (.slice e))
    (hT : TR m T a.tmps) (hx : copd x = some y) (hv : qCapSl y T σ = some v) : QRuns P a.eval ⟨dst, .call c, type, pos, after, guard⟩ w m v := by
  have hx' := copd_ok hT hx
  have fin : ∀ b l k, a.eval x = .slice b l k → v = .int .i64 (Int.ofNat k) → QRuns P a.eval ⟨dst, .call c, type, pos, after, guard⟩ w m v := by
    intro b l k e1 e2
    subst e2
    refine ⟨goInt k, ?_, (SR.int _ _).vr⟩
    rw [builtin_run hc, types_one h1, args_one h2, e1]; simp [builtin, Builtin.cap_, run_underlying ht]
  unfold qCapSl vCapSl at hv
  split at hv
  · rename_i hn; rw [hn] at hx'; cases hv; exact fin _ _ _ hx'.nsl rfl
  · rename_i hn; rw [hn] at hx'; cases hv; obtain ⟨mi, hm, _, e1⟩ := hx'.sl; exact fin _ _ _ e1 rfl
  · cases hv
theorem max_run {v0 : AVal} {l : List AVal} {x : Value} {r : List Value} (h : maxA v0 l = some v) (hx : VR m v0 x) (hr : VRs m l r) : ∃ z, (r.foldlM Builtin.max2 x).run P w = .ok z w ∧ VR m v z := by
  induction l generalizing v0 x r with
  | nil => cases hr; simp only [maxA] at h; cases h; exact ⟨x, rfl, hx⟩
  | cons u l ih => cases hr with
    | cons _ y _ r hy hs =>
      unfold maxA at h
      split at h
      · rename_i k q
        split at h
        · rename_i k' q'
          have e1 := hx.int; have e2 := hy.int
          subst e1; subst e2
          have step : (Builtin.max2 (.int k q) (.int k' q')).run P w = .ok (.int k (if q' > q then q' else q)) w := rfl
          split at h
          · rename_i hlt
            have hlt := ilt_iff.1 hlt
            obtain ⟨z, h1, h2⟩ := ih h (SR.int k q').vr hs
            refine ⟨z, ?_, h2⟩
            simp only [List.foldlM_cons, Sem.run_bind, step, Result.andThen_ok, if_pos (show q' > q from hlt)]; exact h1
          · rename_i hlt
            have hlt' : ¬ q' > q := fun h' => by rw [ilt_iff.2 h'] at hlt; cases hlt
            obtain ⟨z, h1, h2⟩ := ih h (SR.int k q).vr hs
            refine ⟨z, ?_, h2⟩
            simp only [List.foldlM_cons, Sem.run_bind, step, Result.andThen_ok, if_neg hlt']; exact h1
        · cases h
      · cases h
theorem min_run {v0 : AVal} {l : List AVal} {x : Value} {r : List Value} (h : minA v0 l = some v) (hx : VR m v0 x) (hr : VRs m l r) : ∃ z, (r.foldlM Builtin.min2 x).run P w = .ok z w ∧ VR m v z := by
  induction l generalizing v0 x r with
  | nil => cases hr; simp only [minA] at h; cases h; exact ⟨x, rfl, hx⟩
  | cons u l ih => cases hr with
    | cons _ y _ r hy hs =>
      unfold minA at h
      split at h
      · rename_i k q
        split at h
        · rename_i k' q'
          have e1 := hx.int; have e2 := hy.int
          subst e1; subst e2
          have step : (Builtin.min2 (.int k q) (.int k' q')).run P w = .ok (.int k (if q' < q then q' else q)) w := rfl
          split at h
          · rename_i hlt
            have hlt := ilt_iff.1 hlt
            obtain ⟨z, h1, h2⟩ := ih h (SR.int k q').vr hs
            refine ⟨z, ?_, h2⟩
            simp only [List.foldlM_cons, Sem.run_bind, step, Result.andThen_ok, if_pos (show q' < q from hlt)]; exact h1
          · rename_i hlt
            have hlt' : ¬ q' < q := fun h' => by rw [ilt_iff.2 h'] at hlt; cases hlt
            obtain ⟨z, h1, h2⟩ := ih h (SR.int k q).vr hs
            refine ⟨z, ?_, h2⟩
            simp only [List.foldlM_cons, Sem.run_bind, step, Result.andThen_ok, if_neg hlt']; exact h1
        · cases h
      · cases h
theorem sim_max {c : Call} {x : Operand} {xs : List Operand} {y : Opd} {ys : List Opd} (hc : c.callee = .builtin .max) (h2 : c.args.toList = x :: xs)
    (hT : TR m T a.tmps) (hx : copd x = some y) (hxs : copds xs = some ys) (hv : qMaxI y ys T σ = some v) : QRuns P a.eval ⟨dst, .call c, type, pos, after, guard⟩ w m v := by
  obtain ⟨z, h3, h4⟩ := max_run (P := P) (w := w) hv (copd_ok hT hx) (copds_ok hT hxs)
  refine ⟨z, ?_, h4⟩
  rw [builtin_run hc]
  simp [builtin, Builtin.max_, Array.toList_map, h2, h3]
theorem sim_min {c : Call} {x : Operand} {xs : List Operand} {y : Opd} {ys : List Opd} (hc : c.callee = .builtin .min) (h2 : c.args.toList = x :: xs)
    (hT : TR m T a.tmps) (hx : copd x = some y) (hxs : copds xs = some ys) (hv : qMinI y ys T σ = some v) : QRuns P a.eval ⟨dst, .call c, type, pos, after, guard⟩ w m v := by
  obtain ⟨z, h3, h4⟩ := min_run (P := P) (w := w) hv (copd_ok hT hx) (copds_ok hT hxs)
  refine ⟨z, ?_, h4⟩
  rw [builtin_run hc]
  simp [builtin, Builtin.min_, Array.toList_map, h2, h3]
theorem scals_ok {l r : List AVal} {xs : List Value} (h : scals l = some r) (hx : VRs m l xs) : SRs m r xs := by
  induction l generalizing r xs with
  | nil => cases hx; simp only [scals] at h; cases h; exact .nil
  | cons u l ih => cases hx with
    | cons _ x _ xs hh hs =>
      cases hh with
      | v1 _ _ hh => cases hh with
        | one _ _ hh =>
          have : andThen (scals l) (fun l => some (u :: l)) = some r := by cases hh <;> exact h
          obtain ⟨l', h1, h2⟩ := andThen_eq.1 this
          cases h2
          exact .cons _ _ _ _ hh (ih h1 hs)
        | agg _ _ _ => simp [scals] at h
      | tup _ _ _ => simp [scals] at h
theorem sim_mkFunc {f : FuncId} {first caps : Array Operand} {ys : List Opd} (h0 : first.isEmpty = true) (hT : TR m T a.tmps) (hxs : copds caps.toList = some ys) (hv : qMkFunc f ys T σ = some v) :
    QRuns P a.eval ⟨dst, .makeFunc (.func f) first caps, type, pos, after, guard⟩ w m v := by
  unfold qMkFunc at hv
  obtain ⟨l, hl, hv⟩ := andThen_eq.1 hv
  cases hv
  have hs := scals_ok hl (copds_ok hT hxs)
  have e : first = #[] := by simpa using h0
  subst e
  refine ⟨.func (.func f) #[] (caps.map a.eval), by simp [execOp, Instr.makeFunc], (SR.func _ _ _ ?_).vr⟩
  rw [Array.toList_map]; exact hs
theorem sim_mkI {t : TypeId} {x : Operand} {y : Opd} {d : TypeDesc} (ht : P.underlying t = some d) (hd : ∀ ms, d ≠ .interface ms) (hT : TR m T a.tmps) (hx : copd x = some y) (hv : qMkI t y T σ = some v) :
    QRuns P a.eval ⟨dst, .makeInterface t x, type, pos, after, guard⟩ w m v := by
  have hx' := copd_ok hT hx
  unfold qMkI at hv
  rw [headK_eq] at hv
  unfold vMkI at hv
  have key : ∃ u, v = .iface t u ∧ SR m u (a.eval x) := by
    revert hv hx'
    generalize y.ev T = u
    generalize a.eval x = z
    intro hv hx'
    cases hx' with
    | v1 _ _ h => cases h with
      | one _ _ h =>
        split at hv
        · cases hv
        · cases hv
        · cases hv; exact ⟨_, rfl, h⟩
      | agg _ _ h => cases hv
    | tup _ _ h => cases hv
  obtain ⟨u, rfl, hu⟩ := key
  refine ⟨.iface t (a.eval x), ?_, (SR.iface t u _ hu).vr⟩
  simp only [execOp, Instr.makeInterface, Sem.run_bind, run_underlying ht, Result.andThen_ok]
  cases d <;> first | rfl | exact absurd rfl (hd _)
theorem ext_run {c : Call} {f : FuncId} {fn : Func} {e : Array Value → Sem Value} {x : Value} (hc : c.callee = .value (.func f)) (hf : P.funcs[f]? = some fn) (hb : fn.body.isSome = false) (hn : fn.name ≠ "runtime.NumGoroutine")
    (hN : (Extern.findNext fn).isSome = false) (he : Extern.find fn = some e) (hr : (e (c.args.map a.eval)).run P w = .ok x w) :
    (execOp a.eval ⟨dst, .call c, type, pos, after, guard⟩).run P w = .ok (.value x) w := by
  have h1 : Extern.findNext fn = none := by cases h : Extern.findNext fn with | none => rfl | some _ => rw [h] at hN; cases hN
  have h2 : fn.body = none := by cases h : fn.body with | none => rfl | some _ => rw [h] at hb; cases hb
  have h3 : (mark (.extern f)).run P w = .ok () w := rfl
  simp [execOp, resolve, hc, Deferred.ofValue, invoke, Act.eval, callFunc, hf, hn, h2, h1, he, h3, hr]
theorem find_noEscape {fn : Func} (h : fn.name = "internal/abi.NoEscape") : Extern.find fn = some Extern.AbiNoEscape.same := by
  have g1 : Extern.allGenericRows.lookup "internal/abi.NoEscape" = none := by kernel_rfl
  have g2 : Extern.allTypedRows.lookup "internal/abi.NoEscape" = none := by kernel_rfl
  have g3 : Extern.allRows.lookup "internal/abi.NoEscape" = some Extern.AbiNoEscape.same := by kernel_rfl
  simp only [Extern.find, h, g1, g2, g3]
  rfl
theorem find_count {fn : Func} (h : fn.name = "internal/bytealg.CountString") : Extern.find fn = some Extern.BytealgCount.count := by
  have g1 : Extern.allGenericRows.lookup "internal/bytealg.CountString" = none := by kernel_rfl
  have g2 : Extern.allTypedRows.lookup "internal/bytealg.CountString" = none := by kernel_rfl
  have g3 : Extern.allRows.lookup "internal/bytealg.CountString" = some Extern.BytealgCount.count := by kernel_rfl
  simp only [Extern.find, h, g1, g2, g3]
  rfl
theorem find_index {fn : Func} (h : fn.name = "internal/bytealg.IndexByteString") : Extern.find fn = some Extern.BytealgIndexByte.indexByte := by
  have g1 : Extern.allGenericRows.lookup "internal/bytealg.IndexByteString" = none := by kernel_rfl
  have g2 : Extern.allTypedRows.lookup "internal/bytealg.IndexByteString" = none := by kernel_rfl
  have g3 : Extern.allRows.lookup "internal/bytealg.IndexByteString" = some Extern.BytealgIndexByte.indexByte := by kernel_rfl
  simp only [Extern.find, h, g1, g2, g3]
  rfl
theorem extOf_some {f : Nat} {k : Nat} (h : extOf P f = some k) : ∃ fn, P.funcs[f]? = some fn ∧ fn.body.isSome = false ∧ (Extern.findNext fn).isSome = false ∧
    ((k = 0 ∧ fn.name = "internal/abi.NoEscape") ∨ (k = 1 ∧ fn.name = "internal/bytealg.CountString") ∨ (k = 2 ∧ fn.name = "internal/bytealg.IndexByteString")) := by
  unfold extOf at h
  split at h
  · rename_i fn hf
    split at h
    · cases h
    · rename_i hb
      split at h
      · cases h
      · rename_i hN
        refine ⟨fn, hf, by simpa using hb, by simpa using hN, ?_⟩
        split at h
        · rename_i hn; cases h; exact .inl ⟨rfl, hn⟩
        · split at h
          · rename_i hn; cases h; exact .inr (.inl ⟨rfl, hn⟩)
          · split at h
            · rename_i hn; cases h; exact .inr (.inr ⟨rfl, hn⟩)
            · cases h
  · cases h
theorem args_two {c : Call} {x y : Operand} (h : c.args.toList = [x, y]) : c.args.map a.eval = #[a.eval x, a.eval y] := by
  have : c.args = #[x, y] := by rw [← Array.toArray_toList (xs := c.args), h]
  rw [this]; simp
theorem sim_noEscape {c : Call} {f : FuncId} {x : Operand} {y : Opd} (hc : c.callee = .value (.func f)) (hk : extOf P f = some 0) (ha : c.args.toList = [x]) (hT : TR m T a.tmps) (hx : copd x = some y) (hv : qMov y T σ = some v) :
    QRuns P a.eval ⟨dst, .call c, type, pos, after, guard⟩ w m v := by
  obtain ⟨fn, hf, hb, hN, h⟩ := extOf_some hk
  rcases h with ⟨_, hn⟩ | ⟨h, _⟩ | ⟨h, _⟩
  · unfold qMov at hv
    rw [headK_eq] at hv; cases hv
    exact ⟨a.eval x, ext_run hc hf hb (by rw [hn]; decide) hN (find_noEscape hn) (by rw [args_one ha]; rfl), copd_ok hT hx⟩
  · cases h
  · cases h
theorem strByte_some {x c : AVal} {k : List Nat → Nat → Option AVal} {v : AVal} (h : strByte x c k = some v) : ∃ s n, x = .str s ∧ c = .int .u8 (.ofNat n) ∧ n < 256 ∧ k s n = some v := by
  unfold strByte at h
  split at h
  · split at h
    · split at h
      · split at h
        · obtain ⟨h1, h2⟩ := test_eq.1 h
          exact ⟨_, _, rfl, rfl, Nat.le_of_ble_eq_true h1, h2⟩
        · cases h
      · cases h
    · cases h
  · cases h
theorem u8_eq {b : UInt8} {n : Nat} (h : n < 256) : (b == n.toUInt8) = Nat.beq b.toNat n := by
  rw [Bool.eq_iff_iff, beq_iff_eq, Nat.beq_eq]
  constructor
  · intro e; subst e; simp [Nat.toUInt8, UInt8.toNat_ofNat']; omega
  · intro e; apply UInt8.toNat_inj.1; simp [Nat.toUInt8, UInt8.toNat_ofNat']; omega
theorem countN_eq {n : Nat} (h : n < 256) (l : List UInt8) : countN n (l.map (·.toNat)) = Go.Lib.countByte l n.toUInt8 := by
  induction l with
  | nil => rfl
  | cons b l ih =>
    have e : countN n ((b :: l).map (·.toNat)) = (match Nat.beq b.toNat n with | true => Nat.succ (countN n (l.map (·.toNat))) | false => countN n (l.map (·.toNat))) := rfl
    rw [e]
    unfold Go.Lib.countByte at ih ⊢
    rw [List.count_cons, u8_eq h, ih]
    cases Nat.beq b.toNat n <;> simp
theorem firstN_eq {n : Nat} (h : n < 256) (l : List UInt8) (i : Nat) : firstN n i (l.map (·.toNat)) = if Go.Lib.indexByte l n.toUInt8 = -1 then none else some (i + (Go.Lib.indexByte l n.toUInt8).toNat) := by
  induction l generalizing i with
  | nil => rfl
  | cons b l ih =>
    have e : firstN n i ((b :: l).map (·.toNat)) = (match Nat.beq b.toNat n with | true => some i | false => firstN n (Nat.succ i) (l.map (·.toNat))) := rfl
    have e2 : Go.Lib.indexByte (b :: l) n.toUInt8 = if b == n.toUInt8 then 0 else if Go.Lib.indexByte l n.toUInt8 == -1 then -1 else Go.Lib.indexByte l n.toUInt8 + 1 := rfl
    have hg := Go.Lib.indexByte_ge l n.toUInt8
    rw [e, e2, ih, u8_eq h]
    generalize Go.Lib.indexByte l n.toUInt8 = q at hg ⊢
    cases Nat.beq b.toNat n with
    | true => simp
    | false =>
      by_cases h1 : q = -1
      · simp [h1]
      · have h2 : q + 1 ≠ -1 := by omega
        have h3 : Nat.succ i + q.toNat = i + (q + 1).toNat := by omega
        simp only [Bool.false_eq_true, if_false, beq_iff_eq, h1, h2, h3]
theorem sim_cntS {c : Call} {f : FuncId} {x z : Operand} {x' z' : Opd} (hc : c.callee = .value (.func f)) (hk : extOf P f = some 1) (ha : c.args.toList = [x, z]) (hT : TR m T a.tmps) (hx : copd x = some x') (hz : copd z = some z') (hv : qCntS x' z' T σ = some v) :
    QRuns P a.eval ⟨dst, .call c, type, pos, after, guard⟩ w m v := by
  obtain ⟨fn, hf, hb, hN, h⟩ := extOf_some hk
  have hn : fn.name = "internal/bytealg.CountString" := by 
    rcases h with ⟨h, _⟩ | ⟨_, hn⟩ | ⟨h, _⟩
    · cases h
    · exact hn
    · cases h
  unfold qCntS at hv
  obtain ⟨s, n, e1, e2, hlt, hv⟩ := strByte_some hv
  rw [forceNat_eq] at hv; cases hv
  have hx' := copd_ok hT hx
  have hz' := copd_ok hT hz
  rw [e1] at hx'; rw [e2] at hz'
  obtain ⟨b, g1, rfl⟩ := hx'.str
  refine ⟨_, ext_run hc hf hb (by rw [hn]; decide) hN (find_count hn) (by rw [args_two ha, g1, hz'.int]; exact Go.Lib.run_countString b _ w), ?_⟩
  rw [countN_eq hlt]
  exact (SR.int _ _).vr
theorem sim_ixbS {c : Call} {f : FuncId} {x z : Operand} {x' z' : Opd} (hc : c.callee = .value (.func f)) (hk : extOf P f = some 2) (ha : c.args.toList = [x, z]) (hT : TR m T a.tmps) (hx : copd x = some x') (hz : copd z = some z') (hv : qIxbS x' z' T σ = some v) :
    QRuns P a.eval ⟨dst, .call c, type, pos, after, guard⟩ w m v := by
  obtain ⟨fn, hf, hb, hN, h⟩ := extOf_some hk
  have hn : fn.name = "internal/bytealg.IndexByteString" := by
    rcases h with ⟨h, _⟩ | ⟨h, _⟩ | ⟨_, hn⟩
    · cases h
    · cases h
    · exact hn
  unfold qIxbS at hv
  obtain ⟨s, n, e1, e2, hlt, hv⟩ := strByte_some hv
  have hx' := copd_ok hT hx
  have hz' := copd_ok hT hz
  rw [e1] at hx'; rw [e2] at hz'
  obtain ⟨b, g1, rfl⟩ := hx'.str
  refine ⟨_, ext_run hc hf hb (by rw [hn]; decide) hN (find_index hn) (by rw [args_two ha, g1, hz'.int]; exact Go.Lib.run_indexByteString b _ w), ?_⟩
  have hg := Go.Lib.indexByte_ge b.data.toList n.toUInt8
  have hi : (Int.ofNat n).toNat.toUInt8 = n.toUInt8 := rfl
  rw [hi]
  rw [firstN_eq hlt] at hv
  by_cases h1 : Go.Lib.indexByte b.data.toList n.toUInt8 = -1
  · rw [if_pos h1] at hv
    cases hv
    rw [h1]
    exact (SR.int _ _).vr
  · rw [if_neg h1] at hv
    simp only [forceNat_eq] at hv
    cases hv
    have : Int.ofNat (0 + (Go.Lib.indexByte b.data.toList n.toUInt8).toNat) = Go.Lib.indexByte b.data.toList n.toUInt8 := by
      rw [Nat.zero_add]; exact Int.toNat_of_nonneg (by omega)
    rw [this]
    exact (SR.int _ _).vr
theorem WR.shape (h : WR w0 m σ w) {b : Pos} {blk : Blk} (hb : Tr.get b σ.heap = some blk) {mi : MI} (hm : m b = some mi) :
    ∃ ty, w.shape? mi.c = some (ty, mi.size) ∧ (∀ t, blk.esz = tagOf t → ty = t ∧ (blk.kind = .ex → mi.base = 0)) ∧ ∀ i v, blk.cells[i]? = some v → mi.base + i < mi.size := by
  obtain ⟨cells, ty, frz, h1, h2, h3, h4, _⟩ := (h.get hb hm).cells
  refine ⟨ty, by simp [World.shape?, h1, h2], h4, fun i v hv => ?_⟩
  obtain ⟨x, hx, _⟩ := h3 i v hv
  rw [← h2]
  exact (Array.getElem?_eq_some_iff.1 hx).1
theorem sim_toU {s d u : TypeId} {n : Nat} {x : Operand} {y : Opd} (hs : P.underlying s = some (.pointer u)) (hd : P.underlying d = some .unsafePointer) (hn : csize P u = some n) (h0 : n ≠ 0) (hW : WR w0 m σ w) (hT : TR m T a.tmps) (hx : copd x = some y)
    (hv : qToU y T σ = some v) : QRuns P a.eval ⟨dst, .convert s d x, type, pos, after, guard⟩ w m v := by
  have hx' := copd_ok hT hx
  unfold qToU at hv
  split at hv
  · rename_i b o e1
    rw [e1] at hx'
    obtain ⟨mi, hm, e2⟩ := hx'.ptr
    obtain ⟨blk, hb, hv⟩ := andThen_eq.1 hv
    obtain ⟨c, hc, hv⟩ := andThen_eq.1 hv
    cases hv
    rw [nthV_eq] at hc
    obtain ⟨ty, h1, _, h3⟩ := hW.shape hb hm
    have hlt := h3 o c hc
    refine ⟨.pointer (some ⟨mi.c, mi.base + o, none⟩), ?_, (SR.ptr _ _ mi hm).vr⟩
    have hle : ¬ mi.size ≤ mi.base + o := by omega
    simp [execOp, convert, e2, run_underlying hs, run_underlying hd, Conv.unsafePointer, Conv.seenAt, viewAt, cellsIn, h1, sizeOf_run hn, h0, hle]
  · cases hv
theorem lies_ok {u : TypeId} {count off n : Nat} (hl : liesOk P u = true) (hs : P.cellsOf u ≠ 0) (hr : off % P.cellsOf u = 0) (hc : off / P.cellsOf u + n ≤ count) : liesAt P P.depth u count off u n = true := by
  unfold liesOk at hl
  simp only [Bool.and_eq_true, decide_eq_true_eq] at hl
  obtain ⟨d, hd⟩ : ∃ d, P.depth = d + 1 := ⟨P.depth - 1, by omega⟩
  have h2 := hl.2
  unfold liesAt
  rw [hd] at h2 ⊢
  simp only
  unfold rowAt
  simp [hs, hr, hc, h2]
theorem cellsOf_eq {u : TypeId} {n : Nat} (h : csize P u = some n) : P.cellsOf u = n := by
  unfold csize at h
  unfold Program.cellsOf
  cases hi : P.info? u with
  | none => rw [hi] at h; cases h
  | some i => rw [hi] at h; cases h; simp
theorem sim_ofU {s d u : TypeId} {n : Nat} {x : Operand} {y : Opd} (hs : P.underlying s = some .unsafePointer) (hd : P.underlying d = some (.pointer u)) (hn : csize P u = some n) (h0 : n ≠ 0) (hl : liesOk P u = true) (hW : WR w0 m σ w) (hT : TR m T a.tmps) (hx : copd x = some y)
    (hv : qOfU (tagOf u) n y T σ = some v) : QRuns P a.eval ⟨dst, .convert s d x, type, pos, after, guard⟩ w m v := by
  have hx' := copd_ok hT hx
  unfold qOfU at hv
  split at hv
  · rename_i b o e1
    rw [e1] at hx'
    obtain ⟨mi, hm, e2⟩ := hx'.ptr
    obtain ⟨blk, hb, hv⟩ := andThen_eq.1 hv
    obtain ⟨e, kind, cs⟩ := blk
    dsimp only at hv
    split at hv
    · obtain ⟨ht, hv⟩ := test_eq.1 hv
      cases hv
      simp only [Bool.and_eq_true] at ht
      have ho : o = 0 := by have := ht.1; unfold isZero at this; cases o with | zero => rfl | succ _ => cases this
      subst ho
      obtain ⟨ty, h1, h2, h3⟩ := hW.shape hb hm
      obtain ⟨q1, q2⟩ := h2 u (Nat.eq_of_beq_eq_true ht.2.1)
      subst q1
      have q2 : mi.base = 0 := q2 rfl
      have hle := Nat.le_of_ble_eq_true ht.2.2
      rw [lenN_eq] at hle
      have hsz : n ≤ mi.size := by
        have hlt : n - 1 < cs.length := by omega
        have := h3 (n - 1) cs[n - 1] (List.getElem?_eq_getElem hlt)
        omega
      have hc := cellsOf_eq hn
      have hla : liesAt P P.depth ty (mi.size / P.cellsOf ty) 0 ty 1 = true := lies_ok hl (by rw [hc]; exact h0) (by simp) (by rw [hc]; have := Nat.div_pos hsz (Nat.pos_of_ne_zero h0); simp; omega)
      refine ⟨.pointer (some ⟨mi.c, mi.base + 0, none⟩), ?_, (SR.ptr _ _ mi hm).vr⟩
      rw [q2] at e2 ⊢
      simp [execOp, convert, e2, run_underlying hs, run_underlying hd, Conv.unsafePointer, Conv.seenAt, viewAt, h1, sizeOf_run hn, h0, variablesAt, hla]
    · cases hv
  · cases hv
theorem sim_slData {c : Call} {x : Operand} {y : Opd} (hc : c.callee = .builtin .unsafeSliceData) (ha : c.args.toList = [x]) (hT : TR m T a.tmps) (hx : copd x = some y) (hv : qSlData y T σ = some v) :
    QRuns P a.eval ⟨dst, .call c, type, pos, after, guard⟩ w m v := by
  have hx' := copd_ok hT hx
  have fin : ∀ z, (Builtin.unsafeSliceData_ c.argTypes type #[a.eval x]).run P w = .ok z w → VR m v z → QRuns P a.eval ⟨dst, .call c, type, pos, after, guard⟩ w m v := by
    intro z h1 h2
    refine ⟨z, ?_, h2⟩
    rw [builtin_run hc, args_one ha]
    simp [builtin, h1]
  unfold qSlData at hv
  split at hv
  · rename_i e1
    cases hv
    rw [e1] at hx'
    exact fin (.pointer none) (by rw [hx'.nsl]; rfl) SR.nptr.vr
  · rename_i b o l k e1
    split at hv
    · cases hv
    · rename_i l
      cases hv
      rw [e1] at hx'
      obtain ⟨mi, hm, hle, e2⟩ := hx'.sl
      have hk : k ≠ 0 := by omega
      exact fin _ (by rw [e2]; change Sem.run P (ite (k ≠ 0) (pure _) _) w = _; rw [if_pos hk]; rfl) (SR.ptr _ _ mi hm).vr
  · rename_i b o l k e1
    split at hv
    · cases hv
    · rename_i l
      cases hv
      rw [e1] at hx'
      obtain ⟨mi, ad, cap, hm, h1, h2, h3, e2⟩ := hx'.slu
      have hk : cap ≠ 0 := by omega
      have had : ad = ⟨mi.c, mi.base + o, none⟩ := by rcases h2 with h | ⟨h, _⟩; exact h; omega
      exact fin _ (by rw [e2, had]; change Sem.run P (ite (cap ≠ 0) (pure _) _) w = _; rw [if_pos hk]; rfl) (SR.ptr _ _ mi hm).vr
  · cases hv
end
end Go.Am
