/-
  What the listed variables hold where they hold what the program's text lays. Conditions: none.
-/
import Derived.Test.YtdolmkdbpnlegaaGreatDoorJ2
import Derived.Lib.LaidTab
import Derived.Stop.LaidErr
namespace Go.Am
theorem u64s_eq (l : List Nat) : u64s l = l.map fun n => AVal.int .u64 (.ofNat n) := by
  induction l with
  | nil => rfl
  | cons n l ih => unfold u64s; rw [ih]; rfl
abbrev pows : List Nat := [1, 10, 100, 1000, 10000, 100000, 1000000, 10000000, 100000000, 1000000000, 10000000000, 100000000000, 1000000000000, 10000000000000, 100000000000000, 1000000000000000, 10000000000000000, 100000000000000000, 1000000000000000000, 10000000000000000000]
theorem beqF {a b : Nat} (h : a ≠ b) : Nat.beq a b = false := by
  cases e : Nat.beq a b with
  | false => rfl
  | true => exact absurd (Nat.eq_of_beq_eq_true e) h
theorem gl_of {w : World} {t t2 : TypeId} {v v2 : Value} {zs : List Nat} (hz : gdata 5 = some (u64s zs)) (h1 : ∃ ty frz, w.heap[1]? = some (.cells #[.iface t v] ty frz)) (h2 : ∃ ty frz, w.heap[2]? = some (.cells #[.iface t2 v2] ty frz))
    (h5 : ∃ ty frz, w.heap[5]? = some (.cells (zs.map fun n => Value.int .u64 (Int.ofNat n)).toArray ty frz)) : GL w := by
  have top : ∀ {g : Nat} {cs : List AVal} {t : TypeId} {v : Value}, [AVal.top] = cs → (∃ ty frz, w.heap[g]? = some (.cells #[.iface t v] ty frz)) → ∃ cells ty frz, w.heap[g]? = some (.cells cells ty frz) ∧ cells.size = cs.length ∧ ∀ (i : Nat) (v : AVal), cs[i]? = some v → ∃ x, cells[i]? = some x ∧ SR (fun _ => none) v x := by
    intro g cs t v e h
    subst e
    obtain ⟨ty, frz, h⟩ := h
    refine ⟨_, ty, frz, h, rfl, fun i u hu => ?_⟩
    cases i with
    | zero => cases hu; exact ⟨_, rfl, .top t v⟩
    | succ i => cases hu
  intro g cs h
  by_cases e1 : g = 1
  · subst e1
    exact top (Option.some.inj h) h1
  · by_cases e2 : g = 2
    · subst e2
      exact top (Option.some.inj h) h2
    · by_cases e5 : g = 5
      · subst e5
        rw [hz] at h; cases h
        obtain ⟨ty, frz, h5⟩ := h5
        refine ⟨_, ty, frz, h5, by rw [u64s_eq]; simp, fun i u hu => ?_⟩
        rw [u64s_eq, List.getElem?_map] at hu
        cases hn : zs[i]? with
        | none => rw [hn] at hu; cases hu
        | some n =>
          rw [hn] at hu; cases hu
          exact ⟨.int .u64 (.ofNat n), by rw [← Array.getElem?_toList, List.getElem?_map, hn]; rfl, .int _ _⟩
      · unfold gdata at h
        rw [beqF e1] at h
        simp only at h
        rw [beqF e2] at h
        simp only at h
        rw [beqF e5] at h
        cases h
theorem heap_of_var {P : Program} {w : World} {n : String} {g : Nat} {cs : Array Value} (hg : P.globalNamed n = some g) (h : w.var? P n = some cs) : ∃ ty frz, w.heap[g]? = some (.cells cs ty frz) := by
  unfold World.var? at h
  rw [hg] at h
  simp only [Option.bind_some] at h
  split at h
  · rename_i c t f hc
    cases h
    exact ⟨t, f, hc⟩
  · cases h
theorem fam_start (r : Pos) : S.start.fam r = [] := by
  show famOf r Tr.empty = []
  unfold famOf
  rw [Tr.get_empty]
theorem blk_start (p : Pos) : S.start.blk p = none := Tr.get_empty p
theorem ok_start : Ok S.start :=
  ⟨fun p _ => ⟨blk_start p, Tr.get_empty p, fun r => by rw [fam_start]; exact List.not_mem_nil⟩, fun r q b h _ => (by rw [fam_start] at h; cases h), fun q b r vb h _ => (by rw [blk_start] at h; cases h), fun p _ => Tr.get_empty p⟩
end Go.Am
namespace Go.Proofs.YtdolmkdbpnlegaaGreatDoor
open Go.ChangeShapes Go.WideShapes Go.ChangeAt Go.RowKit
theorem gErr : Tryz.prog.globalNamed "strconv.ErrSyntax" = some 1 := by kernel_rfl
theorem gRng : Tryz.prog.globalNamed "strconv.ErrRange" = some 2 := by kernel_rfl
theorem gPow : Tryz.prog.globalNamed "internal/strconv.uint64pow10" = some 5 := by kernel_rfl
theorem star : "*" ++ "errors.errorString" = "*errors.errorString" := by decide
theorem errType : (Tryz.prog.globals[1]?).map (·.type) = some 83 := by kernel_rfl
theorem rngType : (Tryz.prog.globals[2]?).map (·.type) = some 83 := by kernel_rfl
theorem row225 (u : TypeId) (h : Tryz.prog.typeName? 3 u = some "*errors.errorString") : u = 225 :=
  typeName_ptr_named (nm := "errors.errorString") (by rw [star]; kernel_rfl) (by kernel_rfl) (by decide) u (by rw [star]; exact h)
theorem cells227 : Tryz.prog.cellsOf 227 = 1 := by kernel_rfl
theorem powType : (Tryz.prog.globals[5]?).map (·.type) = some 229 := by kernel_rfl
theorem cells143 : Tryz.prog.cellsOf 143 = 1 := by kernel_rfl
theorem cells229 : Tryz.prog.cellsOf 229 = 20 := by kernel_rfl
theorem cells9 : Tryz.prog.cellsOf 9 = 1 := by kernel_rfl
abbrev errText : List UInt8 := [105, 110, 118, 97, 108, 105, 100, 32, 115, 121, 110, 116, 97, 120]
abbrev rngText : List UInt8 := [118, 97, 108, 117, 101, 32, 111, 117, 116, 32, 111, 102, 32, 114, 97, 110, 103, 101]
theorem gl_laid {W : World} {r3 r5 r6 : List (String × DataW Unit)} (h3 : laidMet Tryz.prog (("internal/strconv.uint64pow10", Lib.tabData .u64 (Am.pows.map Int.ofNat)) :: r3) W)
    (h5 : laidMet Tryz.prog (("strconv.ErrRange", .iface "*errors.errorString" (.ptr (.agg [.lit (.string rngText)]))) :: r5) W)
    (h6 : laidMet Tryz.prog (("strconv.ErrSyntax", .iface "*errors.errorString" (.ptr (.agg [.lit (.string errText)]))) :: r6) W) : Am.GL W := by
  obtain ⟨a, s, hv, _⟩ := laid_sentinel h6 gErr errType Tryz.underlying83 row225 Tryz.underlying225 Tryz.underlying227 rfl rfl Tryz.underlying9 cells227 cells9
  obtain ⟨a2, s2, hv2, _⟩ := laid_sentinel h5 gRng rngType Tryz.underlying83 row225 Tryz.underlying225 Tryz.underlying227 rfl rfl Tryz.underlying9 cells227 cells9
  have ht := Lib.tabIs_of_head (k := .u64) (zs := Am.pows.map Int.ofNat) gPow powType Tryz.underlying229 Tryz.underlying143 cells143 cells229 h3
  refine Am.gl_of (zs := Am.pows) rfl (Am.heap_of_var gErr hv) (Am.heap_of_var gRng hv2) ?_
  have := Am.heap_of_var gPow ht
  rwa [List.map_map] at this
end Go.Proofs.YtdolmkdbpnlegaaGreatDoor
