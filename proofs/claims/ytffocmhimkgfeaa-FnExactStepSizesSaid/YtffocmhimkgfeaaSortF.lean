/-
  DERIVED: THE SHELF's CONTRACTS AT THIS DUMP, IN PLAIN WORDS (tools/lay-plain.mjs out of 'TryShelf.lean', which tools/lay-shelf.mjs wrote): THE SAME DECLARATIONS UNDER THE SAME NAMES: 'import', 'namespace', 'open', 'def', 'theorem' AND NOTHING ELSE: no command of the shelf's: FOR A HAND-IN. Each laying: the table of numbers ('.._ren') and one theorem, a field a fact of the dump's own or the kernel's comparison; each contract: ONE APPLICATION.
-/
import Derived.Shelf.SlGeneric
import Derived.Shelf.SlSortCmp.NoneTotal
import Derived.Ground.SlsfProg
import Derived.Test.YtffocmhimkgfeaaProg
namespace Go.Proofs
open Go.Shelf
def Try.sortF_ren : Go.Shelf.Ren := ⟨fun | 6 => 167 | 15 => 227 | 14 => 226 | 28 => 264 | 29 => 265 | 20 => 256 | 21 => 257 | 22 => 258 | 23 => 259 | 24 => 260 | 25 => 261 | 26 => 262 | 27 => 263 | 46 => 276 | 47 => 277 | 48 => 278 | 49 => 279 | 50 => 280 | 57 => 282 | n => n, fun | 22 => 42 | 24 => 2 | 25 => 189 | 3 => 3 | 39 => 241 | 0 => 0 | 53 => 266 | 55 => 190 | 4 => 4 | 46 => 260 | 45 => 259 | 50 => 170 | 5 => 5 | 9 => 9 | 66 => 270 | 70 => 274 | 76 => 278 | 77 => 279 | n => n, fun | n => n⟩
theorem Try.sortF : Go.Proofs.SlLaysF.n6 Try.prog Try.sortF_ren := {
  mixed := by kernel_rfl
  f6 := ⟨Try.f167.name, by decide, Try.func167.trans (congrArg some (by kernel_rfl))⟩
  f14 := ⟨Try.f226.name, by decide, Try.func226.trans (congrArg some (by kernel_rfl))⟩
  f15 := Try.func227.trans (congrArg some (by kernel_rfl))
  f20 := ⟨Try.f256.name, by decide, Try.func256.trans (congrArg some (by kernel_rfl))⟩
  f21 := ⟨Try.f257.name, by decide, Try.func257.trans (congrArg some (by kernel_rfl))⟩
  f22 := ⟨Try.f258.name, by decide, Try.func258.trans (congrArg some (by kernel_rfl))⟩
  f23 := ⟨Try.f259.name, by decide, Try.func259.trans (congrArg some (by kernel_rfl))⟩
  f24 := ⟨Try.f260.name, by decide, Try.func260.trans (congrArg some (by kernel_rfl))⟩
  f25 := ⟨Try.f261.name, by decide, Try.func261.trans (congrArg some (by kernel_rfl))⟩
  f26 := ⟨Try.f262.name, by decide, Try.func262.trans (congrArg some (by kernel_rfl))⟩
  f27 := ⟨Try.f263.name, by decide, Try.func263.trans (congrArg some (by kernel_rfl))⟩
  f28 := Try.func264.trans (congrArg some (by kernel_rfl))
  f29 := Try.func265.trans (congrArg some (by kernel_rfl))
  f46 := ⟨Try.f276.name, by decide, Try.func276.trans (congrArg some (by kernel_rfl))⟩
  f47 := Try.func277.trans (congrArg some (by kernel_rfl))
  f48 := Try.func278.trans (congrArg some (by kernel_rfl))
  f49 := ⟨Try.f279.name, by decide, Try.func279.trans (congrArg some (by kernel_rfl))⟩
  f50 := ⟨Try.f280.name, by decide, Try.func280.trans (congrArg some (by kernel_rfl))⟩
  f57 := ⟨Try.f282.name, by decide, Try.func282.trans (congrArg some (by kernel_rfl))⟩
  t0 := Try.underlying0
  a0 := Try.isAgg0
  z0 := Try.sizeOf0
  v0 := Try.zeroValue0
  t3 := Try.underlying3
  a3 := Try.isAgg3
  z3 := Try.sizeOf3
  v3 := Try.zeroValue3
  t4 := Try.underlying4
  a4 := Try.isAgg4
  z4 := Try.sizeOf4
  v4 := Try.zeroValue4
  t5 := Try.underlying5
  a5 := Try.isAgg5
  z5 := Try.sizeOf5
  v5 := Try.zeroValue5
  t9 := Try.underlying9
  a9 := Try.isAgg9
  z9 := Try.sizeOf9
  v9 := Try.zeroValue9
  t22 := Try.underlying42
  a22 := Try.isAgg42
  z22 := Try.sizeOf42
  v22 := Try.zeroValue42
  a24 := Try.isAgg2
  z24 := Try.sizeOf2
  t25 := Try.underlying189
  a25 := Try.isAgg189
  z25 := Try.sizeOf189
  v25 := Try.zeroValue189
  t39 := Try.underlying241
  a39 := Try.isAgg241
  z39 := Try.sizeOf241
  v39 := Try.zeroValue241
  t45 := Try.underlying259
  a45 := Try.isAgg259
  z45 := Try.sizeOf259
  v45 := Try.zeroValue259
  t46 := Try.underlying260
  a46 := Try.isAgg260
  z46 := Try.sizeOf260
  v46 := Try.zeroValue260
  t50 := Try.underlying170
  a50 := Try.isAgg170
  z50 := Try.sizeOf170
  v50 := Try.zeroValue170
  t53 := Try.underlying266
  a53 := Try.isAgg266
  z53 := Try.sizeOf266
  v53 := Try.zeroValue266
  t55 := Try.underlying190
  a55 := Try.isAgg190
  z55 := Try.sizeOf190
  v55 := Try.zeroValue190
  t66 := Try.underlying270
  a66 := Try.isAgg270
  z66 := Try.sizeOf270
  v66 := Try.zeroValue270
  t70 := Try.underlying274
  a70 := Try.isAgg274
  z70 := Try.sizeOf274
  v70 := Try.zeroValue274
  t76 := Try.underlying278
  a76 := Try.isAgg278
  z76 := Try.sizeOf278
  v76 := Try.zeroValue278
  t77 := Try.underlying279
  a77 := Try.isAgg279
  z77 := Try.sizeOf279
  v77 := Try.zeroValue279 }
end Go.Proofs
