/-
  The library's function that reads a rune: its contract of the kit's, at this program's numbers.
-/
import Derived.Test.YtnphhelbianjpaaDoorRF
import Derived.Shelf.Unicode.DecodeAny
set_option linter.all false
set_option linter.unusedSimpArgs false
set_option linter.unusedVariables false
set_option linter.unnecessarySimpa false
namespace Go.Proofs.YtnphhelbianjpaaDoor
open Go Go.RowKit Go.Proofs.YtnphhelbianjpaaDoor.V Go.Proofs

def lays197_ren : Go.Shelf.Ren := ⟨fun | 197 => 84 | 260 => 92 | n => n, fun | 9 => 9 | 21 => 21 | 3 => 3 | 4 => 4 | 5 => 5 | 105 => 144 | 119 => 167 | 0 => 0 | 46 => 168 | 139 => 171 | 138 => 170 | n => n, fun | 3 => 0 | 4 => 1 | n => n⟩
theorem lays197 : Go.Proofs.Lays.n197 Tryd.prog lays197_ren where
 mixed := by kernel_rfl
 f197 := Tryd.func84.trans (congrArg some (by kernel_rfl))
 f260 := Tryd.func92.trans (congrArg some (by kernel_rfl))
 t0 := Tryd.underlying0
 a0 := Tryd.isAgg0
 z0 := Tryd.sizeOf0
 v0 := Tryd.zeroValue0
 t3 := Tryd.underlying3
 a3 := Tryd.isAgg3
 z3 := Tryd.sizeOf3
 v3 := Tryd.zeroValue3
 t4 := Tryd.underlying4
 a4 := Tryd.isAgg4
 z4 := Tryd.sizeOf4
 v4 := Tryd.zeroValue4
 t5 := Tryd.underlying5
 a5 := Tryd.isAgg5
 z5 := Tryd.sizeOf5
 v5 := Tryd.zeroValue5
 t9 := Tryd.underlying9
 a9 := Tryd.isAgg9
 z9 := Tryd.sizeOf9
 v9 := Tryd.zeroValue9
 t21 := Tryd.underlying21
 a21 := Tryd.isAgg21
 z21 := Tryd.sizeOf21
 v21 := Tryd.zeroValue21
 t46 := Tryd.underlying168
 a46 := Tryd.isAgg168
 z46 := Tryd.sizeOf168
 v46 := Tryd.zeroValue168
 t105 := Tryd.underlying144
 a105 := Tryd.isAgg144
 z105 := Tryd.sizeOf144
 v105 := Tryd.zeroValue144
 t119 := Tryd.underlying167
 a119 := Tryd.isAgg167
 z119 := Tryd.sizeOf167
 t138 := Tryd.underlying170
 a138 := Tryd.isAgg170
 z138 := Tryd.sizeOf170
 v138 := Tryd.zeroValue170
 t139 := Tryd.underlying171
 a139 := Tryd.isAgg171
 z139 := Tryd.sizeOf171
 v139 := Tryd.zeroValue171
 g3 := by kernel_rfl
 g4 := by kernel_rfl

def Tabs (w : World) : Prop := Lib.Utf8Tabs (lays197_ren.g 3) (lays197_ren.g 4) w
theorem Tabs.below {w0 w : World} (h : Tabs w0) (hb : Below w0.heap.size w0 w) : Tabs w := by
 have key : ∀ (p : Addr) (v : Value), w0.cell? p = some v → w.cell? p = some v := by
  intro p v hp
  rw [hb.cell, hp]
  unfold World.cell? at hp
  split at hp
  ·rename_i h; exact (Array.getElem?_eq_some_iff.1 h).1
  ·cases hp
 exact ⟨fun c hc => key _ _ (h.1 c hc), fun i hi => ⟨key _ _ (h.2 i hi).1, key _ _ (h.2 i hi).2⟩⟩

theorem decode_spec (s : ByteArray) : Pure prog Tabs 84 [.v (.string s)] (.tup [.v (.int .i32 (Lib.decodeGo s).1), .v (.int .i64 (Lib.decodeGo s).2)]) :=
 Pure.world (vs := [.string s]) (v := .tuple #[.int .i32 (Lib.decodeGo s).1, .int .i64 (Lib.decodeGo s).2]) ⟨f_utf8_DecodeRuneInString, by kernel_rfl, by kernel_rfl, by kernel_rfl⟩ rfl (by simp [flatV, atom])
  fun w0 w hg hb => Any.utf8_DecodeRuneInString lays197 s w (hg.below hb)
end Go.Proofs.YtnphhelbianjpaaDoor
