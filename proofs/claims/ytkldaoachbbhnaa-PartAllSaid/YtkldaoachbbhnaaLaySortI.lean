/- slices.Sort over numbers, by the shelf's contract. No condition. -/
import Derived.Test.YtkldaoachbbhnaaF
import Derived.Test.YtkldaoachbbhnaaK22
import Derived.Shelf.Sort.AssemblyIn
namespace Go.Proofs.YtkldaoachbbhnaaF
open Go Go.Proofs Go.Proofs.YtkldaoachbbhnaaK
set_option linter.unusedSimpArgs false
set_option linter.unusedVariables false
def sort_ints_ren : Go.Shelf.Ren := ⟨fun | 189 => 21 | 125 => 24 | 257 => 23 | 128 => 35 | 129 => 36 | 294 => 26 | 295 => 27 | 296 => 28 | 297 => 29 | 298 => 30 | 299 => 31 | 216 => 32 | 300 => 33 | 301 => 34 | 328 => 37 | 329 => 38 | 330 => 39 | 331 => 40 | 332 => 41 | 215 => 42 | 343 => 43 | n => n, fun | 28 => 23 | 3 => 3 | 46 => 45 | 0 => 0 | 51 => 57 | 53 => 59 | 4 => 4 | 183 => 49 | 182 => 48 | 131 => 54 | 5 => 5 | 9 => 9 | 218 => 60 | 222 => 64 | 228 => 67 | 229 => 68 | n => n, fun | n => n⟩
theorem sort_ints : Go.Proofs.Lays.n189 Try.prog sort_ints_ren where
  mixed := by kernel_rfl
  f125 := Try.func24.trans (congrArg some (by kernel_rfl))
  f128 := Try.func35.trans (congrArg some (by kernel_rfl))
  f129 := Try.func36.trans (congrArg some (by kernel_rfl))
  f189 := Try.func21.trans (congrArg some (by kernel_rfl))
  f215 := Try.func42.trans (congrArg some (by kernel_rfl))
  f216 := Try.func32.trans (congrArg some (by kernel_rfl))
  f257 := Try.func23.trans (congrArg some (by kernel_rfl))
  f294 := Try.func26.trans (congrArg some (by kernel_rfl))
  f295 := Try.func27.trans (congrArg some (by kernel_rfl))
  f296 := Try.func28.trans (congrArg some (by kernel_rfl))
  f297 := Try.func29.trans (congrArg some (by kernel_rfl))
  f298 := Try.func30.trans (congrArg some (by kernel_rfl))
  f299 := Try.func31.trans (congrArg some (by kernel_rfl))
  f300 := Try.func33.trans (congrArg some (by kernel_rfl))
  f301 := Try.func34.trans (congrArg some (by kernel_rfl))
  f328 := Try.func37.trans (congrArg some (by kernel_rfl))
  f329 := Try.func38.trans (congrArg some (by kernel_rfl))
  f330 := Try.func39.trans (congrArg some (by kernel_rfl))
  f331 := Try.func40.trans (congrArg some (by kernel_rfl))
  f332 := Try.func41.trans (congrArg some (by kernel_rfl))
  f343 := Try.func43.trans (congrArg some (by kernel_rfl))
  t0 := Try.underlying0
  a0 := Try.isAgg0
  z0 := Try.sizeOf0
  v0 := Try.zeroValue0
  t3 := Try.underlying3
  a3 := Try.isAgg3
  z3 := Try.sizeOf3
  v3 := Try.zeroValue3
  t4 := Try.underlying4
  a4 := Try.isAgg4
  z4 := Try.sizeOf4
  v4 := Try.zeroValue4
  t5 := Try.underlying5
  a5 := Try.isAgg5
  z5 := Try.sizeOf5
  v5 := Try.zeroValue5
  t9 := Try.underlying9
  a9 := Try.isAgg9
  z9 := Try.sizeOf9
  v9 := Try.zeroValue9
  t28 := Try.underlying23
  a28 := Try.isAgg23
  z28 := Try.sizeOf23
  v28 := Try.zeroValue23
  t46 := Try.underlying45
  a46 := Try.isAgg45
  z46 := Try.sizeOf45
  v46 := Try.zeroValue45
  t51 := Try.underlying57
  a51 := Try.isAgg57
  z51 := Try.sizeOf57
  v51 := Try.zeroValue57
  t53 := Try.underlying59
  a53 := Try.isAgg59
  z53 := Try.sizeOf59
  v53 := Try.zeroValue59
  t131 := Try.underlying54
  a131 := Try.isAgg54
  z131 := Try.sizeOf54
  v131 := Try.zeroValue54
  t182 := Try.underlying48
  a182 := Try.isAgg48
  z182 := Try.sizeOf48
  v182 := Try.zeroValue48
  t183 := Try.underlying49
  a183 := Try.isAgg49
  z183 := Try.sizeOf49
  v183 := Try.zeroValue49
  t218 := Try.underlying60
  a218 := Try.isAgg60
  z218 := Try.sizeOf60
  v218 := Try.zeroValue60
  t222 := Try.underlying64
  a222 := Try.isAgg64
  z222 := Try.sizeOf64
  v222 := Try.zeroValue64
  t228 := Try.underlying67
  a228 := Try.isAgg67
  z228 := Try.sizeOf67
  v228 := Try.zeroValue67
  t229 := Try.underlying68
  a229 := Try.isAgg68
  z229 := Try.sizeOf68
  v229 := Try.zeroValue68
theorem c_Sort_ints {B : Nat} {h : Hp} {s : Sl} {l : List Int} (own : OwnRow (Go.Proofs.YtkldaoachbbhnaaK.encI .i64) 1 B h s l) (hl0 : l ≠ []) (hl : l.length < 4611686018427387904) {K : Hp → Prop}
    (hK : ∀ h', OwnRow (Go.Proofs.YtkldaoachbbhnaaK.encI .i64) 1 B h' s (l.mergeSort fun x y => decide (x ≤ y)) → OnlyS s h h' → K h') : C_slices_Sort_int_int s h K :=
  sorti_to (f := 21) (fun blk cap zs w hH hb hz cs => by
    obtain ⟨e, w', fr, r, s, x⟩ := (AnyS.slices_Sort_int_in sort_ints (cs.length + 67) blk 0 cap zs w hH hb hz).2 cs (fun d hd => by cases hd; omega)
    exact ⟨e, w', fr, r, s.comes, x⟩) own hl0 hl hK
end Go.Proofs.YtkldaoachbbhnaaF
