/-
  Bytes of a string; stores, copies, appends. Conditions: none.
-/
import Derived.Test.YthnjfpfcnpefaaaGreatK11
namespace Go.Am
open Go.RowKit (Below)
section
variable {P : Program} {w0 w : World} {m : Mp} {σ : S} {T : Tm} {a : Act} {v : AVal} {dst : Option Tmp} {type : TypeId} {pos : String} {after : Array Edge} {guard : Option (Nat × Bool)} {blk : Blk} {mk : Pos → AVal}
theorem cap_cut (need old : Nat) (e : TypeId) (t : Nat) : need ≤ Question.cut (.appendCap need old e) t := by simp [Question.cut]
theorem choose_run (q : Question) (h : q.forced = false) : (choose q).run P w = .ok (q.cut (w.tape w.drawn q)) { w with drawn := w.drawn + 1 } := by
  rw [run_choose, h]; rfl
theorem push_modify {α : Type} (xs : Array α) (o : α) (f : α → α) : (xs.push o).modify xs.size f = xs.push (f o) := by
  apply Array.ext'
  apply List.ext_getElem?
  intro i
  rw [Array.getElem?_toList, Array.getElem?_toList, Array.getElem?_modify, Array.getElem?_push, Array.getElem?_push]
  by_cases h : i = xs.size
  · subst h; simp
  · simp [h, Ne.symm h]
theorem bytesV_get (s : List Nat) (i : Nat) : (bytesV s)[i]? = (s[i]?).map fun c => AVal.int .u8 (.ofNat c) := by
  induction s generalizing i with
  | nil => simp [bytesV]
  | cons c s ih => cases i with
    | zero => simp [bytesV]
    | succ i => simp [bytesV, ih]
theorem bytesV_rel (b : ByteArray) : SRs m (bytesV (b.data.toList.map (·.toNat))) (b.data.map fun c => Value.int .u8 (c.toNat : Int)).toList := by
  refine SRs.of_get ?_ ?_
  · have : ∀ s : List Nat, (bytesV s).length = s.length := by intro s; induction s <;> simp [bytesV, *]
    rw [this]; simp
  · intro i v x hv hx
    rw [bytesV_get, List.getElem?_map] at hv
    rw [Array.getElem?_toList, Array.getElem?_map, ← Array.getElem?_toList] at hx
    cases hg : b.data.toList[i]? with
    | none => rw [hg] at hv; simp at hv
    | some c =>
      rw [hg] at hv hx
      simp only [Option.map_some, Option.some.injEq] at hv hx
      subst hv hx
      exact SR.int _ _
theorem a_strBytes {s d e : TypeId} {x : Operand} {y : Opd} (hs : P.underlying s = some .string) (hd : P.underlying d = some (.slice e)) (he : isU8 P e = true) (hW : WR w0 m σ w) (hT : TR m T a.tmps)
    (hx : copd x = some y) (hv : aStrBytes y T = some (blk, mk)) : ARuns P a.eval ⟨dst, .convert s d x, type, pos, after, guard⟩ w0 w m σ blk mk := by
  have hx' := copd_ok hT hx
  have he' : P.underlying e = some (.int .u8) := by
    unfold isU8 at he; split at he
    · assumption
    · cases he
  unfold aStrBytes at hv
  split at hv
  · rename_i l hl
    rw [hl] at hx'
    obtain ⟨b, e1, rfl⟩ := hx'.str
    rw [forceNat_eq, lenS_eq, size_map] at hv
    cases hv
    intro p nx h1 h2 h3
    let q : Question := .appendCap b.size 0 e
    let cap := q.cut (w.tape w.drawn q)
    have hcap : b.size ≤ cap := cap_cut _ _ _ _
    let arr : Array Value := (b.data.map fun c => Value.int .u8 (c.toNat : Int)) ++ Array.replicate (cap - b.size) (.int .u8 0)
    have hbs : b.data.size = b.size := rfl
    have harr : arr.size = cap := by simp [arr, hbs]; omega
    refine ⟨.slice (some ⟨w.heap.size, 0, none⟩) b.size cap, { w with heap := w.heap.push (.cells arr e (arr.size, arr.size + 1)), drawn := w.drawn + 1 }, ⟨w.heap.size, 0, arr.size⟩, ?_, ?_, ?_⟩
    · simp only [execOp, e1, convert, Sem.run_bind, run_underlying hs, run_underlying hd, Result.andThen_ok, run_underlying he', Conv.stringToBytes]
      rw [choose_run q rfl]
      simp only [Result.andThen_ok, newRow, Sem.run_bind, run_newObj, Sem.run_pure, markStringish, run_shape]
      have hsh : World.shape? { heap := w.heap.push (Obj.cells arr e), tape := w.tape, drawn := w.drawn + 1, os := w.os, output := w.output } w.heap.size = some (e, arr.size) := by
        simp [World.shape?]
      simp only [show (Array.map (fun b => Value.int IntKind.u8 ↑b.toNat) b.data ++ Array.replicate (q.cut (w.tape w.drawn q) - b.size) (Value.int IntKind.u8 0)) = arr from rfl, hsh, Result.andThen_ok, run_freeze]
      simp only [World.freeze, Nat.one_ne_zero, if_false, push_modify]
      rfl
    · exact hW.add h1 h2 h3 (fun root vb hk => by simp [Blk.named] at hk; rw [← hk.1]; exact h2) (fun i v hv => by
        obtain ⟨y, hy, hs'⟩ := (bytesV_rel b).get hv
        refine ⟨y, ?_, hs'⟩
        have hi := (List.getElem?_eq_some_iff.1 hy).1
        rw [Array.getElem?_toList] at hy
        rw [Array.getElem?_append_left (by simpa using hi)]; exact hy) (fun i hi h => by omega)
    · exact (SR.slu p 0 b.size 1 _ _ cap (upd_same _ _ _) hcap (.inl rfl) (.inr (by simp [harr]))).vr
  · cases hv
/-- AN OPERATION THAT MAKES A BLOCK. -/
theorem simA {o : Op} {q : AOp} (h : cop P o = some (.a q)) (hW : WR w0 m σ w) (hT : TR m T a.tmps) (hv : evalA q T = some (blk, mk)) :
    ARuns P a.eval ⟨dst, o, type, pos, after, guard⟩ w0 w m σ blk mk := by
  cases o with
  | alloc t => simp [cop, Option.bind_eq_some_iff] at h; obtain ⟨z, hz, rfl⟩ := h; exact a_alloc (T := T) hW hz hv
  | box t x => simp [cop, Option.bind_eq_some_iff] at h; obtain ⟨y, hy, rfl⟩ := h; exact a_box hW hT hy hv
  | buildSlice t n ps =>
    simp only [cop] at h
    split at h
    · rename_i e hu
      simp only [bindSome] at h
      obtain ⟨s, hs, z, hz, h⟩ := h
      split at h
      · rename_i hc
        simp [Option.bind_eq_some_iff] at h
        obtain ⟨l, hl, rfl⟩ := h
        simp only [Bool.and_eq_true, decide_eq_true_eq] at hc
        exact a_bslice hu hs hz ⟨hc.1.1, hc.1.2, hc.2⟩ hl hW hT hv
      · cases h
    · cases h
  | makeSlice t l c =>
    simp only [cop] at h
    split at h
    · rename_i e hu
      simp only [bindSome] at h
      obtain ⟨i, hi, z, hz, h⟩ := h
      split at h
      · rename_i hc
        simp [Option.bind_eq_some_iff] at h
        obtain ⟨l', hl, c', hc', rfl⟩ := h
        simp only [Bool.and_eq_true, decide_eq_true_eq] at hc
        exact a_mkslice hu hi hz ⟨hc.1.1, hc.1.2, hc.2⟩ hW hT hl hc' hv
      · cases h
    · cases h
  | convert s d x =>
    simp only [cop] at h
    split at h
    · simp [Option.bind_eq_some_iff] at h
    · simp [Option.bind_eq_some_iff] at h
    · split at h
      · simp [Option.bind_eq_some_iff] at h
      · cases h
    · rename_i e h1 h2
      split at h
      · rename_i he
        simp [Option.bind_eq_some_iff] at h
        obtain ⟨y, hy, rfl⟩ := h
        exact a_strBytes h1 h2 he hW hT hy hv
      · cases h
    · cases h
  | load t x =>
    simp only [cop] at h
    split at h
    · simp [Option.bind_eq_some_iff] at h
    · split at h
      · simp [Option.bind_eq_some_iff] at h
      · cases h
  | binOp op t x y yt =>
    simp only [cop] at h
    split at h
    · split at h
      · simp [Option.bind_eq_some_iff] at h
      · cases h
    · split at h
      · simp [Option.bind_eq_some_iff] at h
      · cases h
    · cases h
    · split at h <;> first | (cases h; done) | (simp [Option.bind_eq_some_iff] at h; done)
  | build t ps =>
    simp only [cop, bindSome] at h
    obtain ⟨z, hz, h⟩ := h
    split at h
    · split at h
      · simp [Option.bind_eq_some_iff] at h
      · cases h
    · simp [Option.bind_eq_some_iff] at h
    · cases h
  | slice t x lo hi mx =>
    simp only [cop] at h
    split at h
    · split at h
      · simp [Option.bind_eq_some_iff] at h
      · cases h
    · simp only [bindSome] at h
      obtain ⟨n, hn, h⟩ := h
      split at h
      · cases h
      · simp [Option.bind_eq_some_iff] at h
    · simp only [bindSome] at h
      obtain ⟨n, hn, h⟩ := h
      split at h
      · cases h
      · simp [Option.bind_eq_some_iff] at h
    · split at h
      · simp only [bindSome] at h
        obtain ⟨n, hn, h⟩ := h
        split at h
        · cases h
        · simp [Option.bind_eq_some_iff] at h
      · cases h
    · cases h
  | fieldAddr t x f =>
    simp only [cop] at h
    split at h
    · simp only [bindSome] at h
      obtain ⟨fd, hfd, n, hn, h⟩ := h
      split at h
      · cases h
      · simp [Option.bind_eq_some_iff] at h
    · cases h
  | field t x f =>
    simp only [cop] at h
    split at h
    · simp only [bindSome] at h
      obtain ⟨fd, hfd, n, hn, h⟩ := h
      split at h
      · simp [Option.bind_eq_some_iff] at h
      · cases h
    · cases h
  | indexAddr t x i =>
    simp only [cop] at h
    split at h
    · simp [Option.bind_eq_some_iff] at h
    · simp [Option.bind_eq_some_iff] at h
    · cases h
  | index t x i =>
    simp only [cop] at h
    split at h
    · split at h
      · simp [Option.bind_eq_some_iff] at h
      · cases h
    · simp [Option.bind_eq_some_iff] at h
    · cases h
  | makeFunc fn first caps =>
    cases fn <;> simp only [cop] at h <;> (try (cases h; done))
    split at h
    · simp [Option.bind_eq_some_iff] at h
    · cases h
  | call c =>
    simp only [cop] at h
    split at h
    · simp [Option.bind_eq_some_iff] at h
    · simp [Option.bind_eq_some_iff] at h
    · split at h
      · split at h <;> first | (cases h; done) | (simp [Option.bind_eq_some_iff] at h; done) | (split at h <;> first | (cases h; done) | (simp [Option.bind_eq_some_iff] at h; done))
      · cases h
    · split at h
      · split at h
        · simp [Option.bind_eq_some_iff] at h
        · cases h
      · cases h
    · split at h
      · simp [Option.bind_eq_some_iff] at h
      · cases h
    · split at h
      · simp [Option.bind_eq_some_iff] at h
      · cases h
    · split at h
      · split at h
        · simp only [bindSome] at h
          obtain ⟨i, hi, z, hz, h⟩ := h
          split at h
          · split at h
            · simp [Option.bind_eq_some_iff] at h
            · cases h
          · split at h
            · simp [Option.bind_eq_some_iff] at h
            · cases h
          · cases h
        · cases h
      · cases h
    · split at h
      · simp only [bindSome] at h
        obtain ⟨⟨g, cs, e⟩, _, h⟩ := h
        simp at h
      · cases h
    · split at h
      · split at h
        · simp [Option.bind_eq_some_iff] at h
        · cases h
      · cases h
    · split at h
      · split at h
        · simp [Option.bind_eq_some_iff] at h
        · cases h
      · cases h
    · cases h
  | makeMap t r =>
    simp only [cop] at h
    split at h
    · simp [Option.bind_eq_some_iff] at h
    · cases h
  | mapUpdate t x k v' =>
    simp only [cop, bindSome] at h
    obtain ⟨⟨g, cs, e⟩, _, h⟩ := h
    simp at h
  | mapEntry t x k =>
    simp only [cop, bindSome] at h
    obtain ⟨⟨g, cs, e⟩, _, h⟩ := h
    simp at h
  | entryStore t x s v' => simp [cop, Option.bind_eq_some_iff] at h
  | range t x =>
    simp only [cop] at h
    split at h
    · simp [Option.bind_eq_some_iff] at h
    · cases h
  | next x b => cases b <;> simp [cop, Option.bind_eq_some_iff] at h
  | entry x => simp [cop, Option.bind_eq_some_iff] at h
  | lookup t x k ok =>
    simp only [cop, bindSome] at h
    obtain ⟨⟨g, cs, e⟩, _, h⟩ := h
    simp at h
  | _ => simp [cop, Option.bind_eq_some_iff] at h
end
end Go.Am
