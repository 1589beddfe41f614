/-
  The library's function that reads a rune: its contract of the kit's, at this program's numbers.
-/
import Derived.Test.YtnphhelbianjpaaGreatDoorRF
import Derived.Shelf.Unicode.DecodeAny
set_option linter.all false
set_option linter.unusedSimpArgs false
set_option linter.unusedVariables false
set_option linter.unnecessarySimpa false
namespace Go.Proofs.YtnphhelbianjpaaGreatDoor
open Go Go.RowKit Go.Proofs.YtnphhelbianjpaaGreatDoor.V Go.Proofs

def lays197_ren : Go.Shelf.Ren := ⟨fun | 197 => 141 | 260 => 151 | n => n, fun | 9 => 9 | 21 => 21 | 3 => 3 | 4 => 4 | 5 => 5 | 105 => 191 | 119 => 214 | 0 => 0 | 46 => 215 | 139 => 218 | 138 => 217 | n => n, fun | 3 => 0 | 4 => 1 | n => n⟩
theorem lays197 : Go.Proofs.Lays.n197 Tryz.prog lays197_ren where
 mixed := by kernel_rfl
 f197 := Tryz.func141.trans (congrArg some (by kernel_rfl))
 f260 := Tryz.func151.trans (congrArg some (by kernel_rfl))
 t0 := Tryz.underlying0
 a0 := Tryz.isAgg0
 z0 := Tryz.sizeOf0
 v0 := Tryz.zeroValue0
 t3 := Tryz.underlying3
 a3 := Tryz.isAgg3
 z3 := Tryz.sizeOf3
 v3 := Tryz.zeroValue3
 t4 := Tryz.underlying4
 a4 := Tryz.isAgg4
 z4 := Tryz.sizeOf4
 v4 := Tryz.zeroValue4
 t5 := Tryz.underlying5
 a5 := Tryz.isAgg5
 z5 := Tryz.sizeOf5
 v5 := Tryz.zeroValue5
 t9 := Tryz.underlying9
 a9 := Tryz.isAgg9
 z9 := Tryz.sizeOf9
 v9 := Tryz.zeroValue9
 t21 := Tryz.underlying21
 a21 := Tryz.isAgg21
 z21 := Tryz.sizeOf21
 v21 := Tryz.zeroValue21
 t46 := Tryz.underlying215
 a46 := Tryz.isAgg215
 z46 := Tryz.sizeOf215
 v46 := Tryz.zeroValue215
 t105 := Tryz.underlying191
 a105 := Tryz.isAgg191
 z105 := Tryz.sizeOf191
 v105 := Tryz.zeroValue191
 t119 := Tryz.underlying214
 a119 := Tryz.isAgg214
 z119 := Tryz.sizeOf214
 t138 := Tryz.underlying217
 a138 := Tryz.isAgg217
 z138 := Tryz.sizeOf217
 v138 := Tryz.zeroValue217
 t139 := Tryz.underlying218
 a139 := Tryz.isAgg218
 z139 := Tryz.sizeOf218
 v139 := Tryz.zeroValue218
 g3 := by kernel_rfl
 g4 := by kernel_rfl

def Tabs (w : World) : Prop := Lib.Utf8Tabs (lays197_ren.g 3) (lays197_ren.g 4) w
theorem Tabs.below {w0 w : World} (h : Tabs w0) (hb : Below w0.heap.size w0 w) : Tabs w := by
 have key : ∀ (p : Addr) (v : Value), w0.cell? p = some v → w.cell? p = some v := by
  intro p v hp
  rw [hb.cell, hp]
  unfold World.cell? at hp
  split at hp
  ·rename_i h; exact (Array.getElem?_eq_some_iff.1 h).1
  ·cases hp
 exact ⟨fun c hc => key _ _ (h.1 c hc), fun i hi => ⟨key _ _ (h.2 i hi).1, key _ _ (h.2 i hi).2⟩⟩

theorem decode_spec (s : ByteArray) : Pure prog Tabs 141 [.v (.string s)] (.tup [.v (.int .i32 (Lib.decodeGo s).1), .v (.int .i64 (Lib.decodeGo s).2)]) :=
 Pure.world (vs := [.string s]) (v := .tuple #[.int .i32 (Lib.decodeGo s).1, .int .i64 (Lib.decodeGo s).2]) ⟨f_utf8_DecodeRuneInString, by kernel_rfl, by kernel_rfl, by kernel_rfl⟩ rfl (by simp [flatV, atom])
  fun w0 w hg hb => Any.utf8_DecodeRuneInString lays197 s w (hg.below hb)
end Go.Proofs.YtnphhelbianjpaaGreatDoor
