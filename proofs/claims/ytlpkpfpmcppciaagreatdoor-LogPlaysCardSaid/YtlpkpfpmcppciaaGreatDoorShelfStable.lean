/- The shelf's contracts at this seat, in plain words, by the kit's tool: laysGt8. -/
import Derived.Shelf.Spec.SlicesInsertGrow
import Derived.Shelf.Spec.SlicesInsert
import Derived.Ground.NamesProg
import Derived.Ground.SlsfProg
import Derived.Shelf.SlSortCmp.WholeK
import Derived.Shelf.SlSortCmp.NoneTotal
import Derived.Shelf.Small.Bits
import Derived.Shelf.Small.Strs
import Derived.Shelf.Strconv.Itoa0
import Derived.Shelf.Strconv.Itoa1
import Derived.Shelf.LaysM
import Derived.Shelf.Strconv.Itoa2
import Derived.Shelf.Strconv.Itoa3
import Derived.Shelf.Strings.Search1
import Derived.Shelf.Strings.Search2
import Derived.Shelf.Strings.Search3
import Derived.Shelf.Strings.Shaped
import Derived.Shelf.Sort.Plain
import Derived.Ground.GgsProg
import Derived.Shelf.GgSortFunc.Insertion
import Derived.Shelf.GgSortFunc.InsertionK
import Derived.Shelf.GgSortFunc.Tiny
import Derived.Shelf.GgSortFunc.Compose
import Derived.Ground.GgtProg
import Derived.Shelf.GgSortMore.Stable
import Derived.Shelf.Slices.Equal
import Derived.Ground.Names2Prog
import Derived.Shelf.Slices.Clone
import Derived.Shelf.Slices.In.SortNone
import Derived.Shelf.Slices.In.SortNone2
import Derived.Shelf.Slices.Empties2
import Derived.Shelf.SlSortFuncK.ComposeK
import Derived.Test.YtlpkpfpmcppciaaGreatDoorProg
set_option maxRecDepth 100000
namespace Go.Proofs.YtlpkpfpmcppciaaGreatDoor
open Go.Shelf
def Tryz.laysGt8_ren : Go.Shelf.Ren := ⟨fun | 8 => 67 | 13 => 86 | 14 => 87 | 16 => 89 | 15 => 88 | 29 => 119 | 30 => 120 | 42 => 148 | 49 => 160 | n => n, fun | 20 => 20 | 26 => 129 | 36 => 148 | 0 => 0 | 38 => 150 | 42 => 154 | 3 => 3 | 4 => 4 | 47 => 139 | 17 => 17 | 33 => 145 | 34 => 146 | 89 => 237 | 12 => 12 | 56 => 172 | 82 => 231 | 5 => 5 | 83 => 160 | 84 => 232 | 85 => 233 | 86 => 234 | 87 => 235 | n => n, fun | n => n⟩
theorem Tryz.laysGt8 : Go.Proofs.LaysGt.n8 Tryz.prog Tryz.laysGt8_ren := {
  mixed := by kernel_rfl
  f8 := Tryz.func67.trans (congrArg some (by kernel_rfl))
  f13 := Tryz.func86.trans (congrArg some (by kernel_rfl))
  f14 := Tryz.func87.trans (congrArg some (by kernel_rfl))
  f15 := Tryz.func88.trans (congrArg some (by kernel_rfl))
  f16 := Tryz.func89.trans (congrArg some (by kernel_rfl))
  f29 := Tryz.func119.trans (congrArg some (by kernel_rfl))
  f30 := Tryz.func120.trans (congrArg some (by kernel_rfl))
  f42 := Tryz.func148.trans (congrArg some (by kernel_rfl))
  f49 := Tryz.func160.trans (congrArg some (by kernel_rfl))
  t0 := Tryz.underlying0
  a0 := Tryz.isAgg0
  z0 := Tryz.sizeOf0
  v0 := Tryz.zeroValue0
  i0 := by kernel_rfl
  t3 := Tryz.underlying3
  a3 := Tryz.isAgg3
  z3 := Tryz.sizeOf3
  v3 := Tryz.zeroValue3
  i3 := by kernel_rfl
  t4 := Tryz.underlying4
  a4 := Tryz.isAgg4
  z4 := Tryz.sizeOf4
  v4 := Tryz.zeroValue4
  i4 := by kernel_rfl
  t5 := Tryz.underlying5
  a5 := Tryz.isAgg5
  z5 := Tryz.sizeOf5
  v5 := Tryz.zeroValue5
  i5 := by kernel_rfl
  t12 := Tryz.underlying12
  a12 := Tryz.isAgg12
  z12 := Tryz.sizeOf12
  v12 := Tryz.zeroValue12
  i12 := by kernel_rfl
  t17 := Tryz.underlying17
  a17 := Tryz.isAgg17
  z17 := Tryz.sizeOf17
  v17 := Tryz.zeroValue17
  i17 := by kernel_rfl
  t20 := Tryz.underlying20
  a20 := Tryz.isAgg20
  z20 := Tryz.sizeOf20
  v20 := Tryz.zeroValue20
  i20 := by kernel_rfl
  t26 := Tryz.underlying129
  a26 := Tryz.isAgg129
  z26 := Tryz.sizeOf129
  v26 := Tryz.zeroValue129
  i26 := by kernel_rfl
  t33 := Tryz.underlying145
  a33 := Tryz.isAgg145
  z33 := Tryz.sizeOf145
  v33 := Tryz.zeroValue145
  i33 := by kernel_rfl
  t34 := Tryz.underlying146
  a34 := Tryz.isAgg146
  z34 := Tryz.sizeOf146
  v34 := Tryz.zeroValue146
  i34 := by kernel_rfl
  t36 := Tryz.underlying148
  a36 := Tryz.isAgg148
  z36 := Tryz.sizeOf148
  v36 := Tryz.zeroValue148
  i36 := by kernel_rfl
  t38 := Tryz.underlying150
  a38 := Tryz.isAgg150
  z38 := Tryz.sizeOf150
  v38 := Tryz.zeroValue150
  i38 := by kernel_rfl
  t42 := Tryz.underlying154
  a42 := Tryz.isAgg154
  z42 := Tryz.sizeOf154
  v42 := Tryz.zeroValue154
  i42 := by kernel_rfl
  t47 := Tryz.underlying139
  a47 := Tryz.isAgg139
  z47 := Tryz.sizeOf139
  v47 := Tryz.zeroValue139
  i47 := by kernel_rfl
  t56 := Tryz.underlying172
  a56 := Tryz.isAgg172
  z56 := Tryz.sizeOf172
  v56 := Tryz.zeroValue172
  i56 := by kernel_rfl
  t82 := Tryz.underlying231
  a82 := Tryz.isAgg231
  z82 := Tryz.sizeOf231
  v82 := Tryz.zeroValue231
  i82 := by kernel_rfl
  t83 := Tryz.underlying160
  a83 := Tryz.isAgg160
  z83 := Tryz.sizeOf160
  v83 := Tryz.zeroValue160
  i83 := by kernel_rfl
  t84 := Tryz.underlying232
  a84 := Tryz.isAgg232
  z84 := Tryz.sizeOf232
  v84 := Tryz.zeroValue232
  i84 := by kernel_rfl
  t85 := Tryz.underlying233
  a85 := Tryz.isAgg233
  z85 := Tryz.sizeOf233
  v85 := Tryz.zeroValue233
  i85 := by kernel_rfl
  t86 := Tryz.underlying234
  a86 := Tryz.isAgg234
  z86 := Tryz.sizeOf234
  v86 := Tryz.zeroValue234
  i86 := by kernel_rfl
  t87 := Tryz.underlying235
  a87 := Tryz.isAgg235
  z87 := Tryz.sizeOf235
  v87 := Tryz.zeroValue235
  i87 := by kernel_rfl
  t89 := Tryz.underlying237
  a89 := Tryz.isAgg237
  z89 := Tryz.sizeOf237
  v89 := Tryz.zeroValue237
  i89 := by kernel_rfl }
end Go.Proofs.YtlpkpfpmcppciaaGreatDoor
