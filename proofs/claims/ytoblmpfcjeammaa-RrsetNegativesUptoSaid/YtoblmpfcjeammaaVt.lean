/-
  What each type of the program is: its size, its cells' zero. Printed by a program of this claim's own (wip/gen/tyfacts.lean). Conditions: none.
-/
import Derived.Test.YtoblmpfcjeammaaVv
import Derived.Test.YtoblmpfcjeammaaProg
set_option linter.unusedVariables false
set_option linter.unusedSimpArgs false
namespace Go.Proofs.Ytoblmpfcjeammaa.V
open Go.RowKit Go.Proofs
theorem info_get {P : Program} {t : TypeId} {i : TypeInfo} (h : P.types[t]? = some i) : P.info? t = some i := by
  have : t < P.types.size := (Array.getElem?_eq_some_iff.1 h).1
  show (if t < P.types.size then P.types[t]? else Made.infoAt P.toTables Made.depth t) = some i
  rw [if_pos this, h]
theorem sizeT_of {P : Program} {t : TypeId} {i : TypeInfo} (h : P.types[t]? = some i) : sizeT P t = i.size := by simp [sizeT, Program.cellsOf, info_get h]
theorem bytesT_of {P : Program} {t : TypeId} {i : TypeInfo} (h : P.types[t]? = some i) : bytesT P t = i.bytes := by simp [bytesT, Program.bytesOf, info_get h]
theorem zeroV_of {P : Program} {t : TypeId} {i : TypeInfo} (h : P.types[t]? = some i) : zeroV P t = i.zero := by simp [zeroV, info_get h]
theorem known_of {P : Program} {t : TypeId} {i : TypeInfo} {d : TypeDesc} (h : P.types[t]? = some i) (hu : P.underlying t = some d) : known P t = true := by simp [known, info_get h, hu]
theorem sz0 : sizeT Try.prog 0 = 1 := (sizeT_of Try.type0).trans rfl
theorem by0 : bytesT Try.prog 0 = 0 := (bytesT_of Try.type0).trans rfl
theorem kn0 : known Try.prog 0 = true := known_of Try.type0 Try.underlying0
theorem ag0 : isAggT Try.prog 0 = false := by simp only [isAggT, Try.underlying0]
theorem ze0 : zeroV Try.prog 0 = Option.some (Go.Value.tuple #[]) := (zeroV_of Try.type0).trans rfl
theorem sz1 : sizeT Try.prog 1 = 1 := (sizeT_of Try.type1).trans rfl
theorem by1 : bytesT Try.prog 1 = 8 := (bytesT_of Try.type1).trans rfl
theorem kn1 : known Try.prog 1 = true := known_of Try.type1 Try.underlying1
theorem ag1 : isAggT Try.prog 1 = false := by simp only [isAggT, Try.underlying1]
theorem ze1 : zeroV Try.prog 1 = Option.some Go.Value.nilFunc := (zeroV_of Try.type1).trans rfl
theorem sz2 : sizeT Try.prog 2 = 1 := (sizeT_of Try.type2).trans rfl
theorem by2 : bytesT Try.prog 2 = 8 := (bytesT_of Try.type2).trans rfl
theorem kn2 : known Try.prog 2 = true := known_of Try.type2 Try.underlying2
theorem ag2 : isAggT Try.prog 2 = false := by simp only [isAggT, Try.underlying2]
theorem ze2 : zeroV Try.prog 2 = Option.some (Go.Value.int Go.IntKind.i64 0) := (zeroV_of Try.type2).trans rfl
theorem sz3 : sizeT Try.prog 3 = 1 := (sizeT_of Try.type3).trans rfl
theorem by3 : bytesT Try.prog 3 = 8 := (bytesT_of Try.type3).trans rfl
theorem kn3 : known Try.prog 3 = true := known_of Try.type3 Try.underlying3
theorem ag3 : isAggT Try.prog 3 = false := by simp only [isAggT, Try.underlying3]
theorem ze3 : zeroV Try.prog 3 = Option.some (Go.Value.int Go.IntKind.i64 0) := (zeroV_of Try.type3).trans rfl
theorem sz4 : sizeT Try.prog 4 = 1 := (sizeT_of Try.type4).trans rfl
theorem by4 : bytesT Try.prog 4 = 1 := (bytesT_of Try.type4).trans rfl
theorem kn4 : known Try.prog 4 = true := known_of Try.type4 Try.underlying4
theorem ag4 : isAggT Try.prog 4 = false := by simp only [isAggT, Try.underlying4]
theorem ze4 : zeroV Try.prog 4 = Option.some (Go.Value.bool Bool.false) := (zeroV_of Try.type4).trans rfl
theorem sz5 : sizeT Try.prog 5 = 1 := (sizeT_of Try.type5).trans rfl
theorem by5 : bytesT Try.prog 5 = 1 := (bytesT_of Try.type5).trans rfl
theorem kn5 : known Try.prog 5 = true := known_of Try.type5 Try.underlying5
theorem ag5 : isAggT Try.prog 5 = false := by simp only [isAggT, Try.underlying5]
theorem ze5 : zeroV Try.prog 5 = Option.some (Go.Value.int Go.IntKind.u8 0) := (zeroV_of Try.type5).trans rfl
theorem sz6 : sizeT Try.prog 6 = 1 := (sizeT_of Try.type6).trans rfl
theorem by6 : bytesT Try.prog 6 = 1 := (bytesT_of Try.type6).trans rfl
theorem kn6 : known Try.prog 6 = true := known_of Try.type6 Try.underlying6
theorem ag6 : isAggT Try.prog 6 = false := by simp only [isAggT, Try.underlying6]
theorem ze6 : zeroV Try.prog 6 = Option.some (Go.Value.int Go.IntKind.u8 0) := (zeroV_of Try.type6).trans rfl
theorem sz7 : sizeT Try.prog 7 = 4 := (sizeT_of Try.type7).trans rfl
theorem by7 : bytesT Try.prog 7 = 24 := (bytesT_of Try.type7).trans rfl
theorem kn7 : known Try.prog 7 = true := known_of Try.type7 Try.underlying7
theorem ag7 : isAggT Try.prog 7 = true := by simp only [isAggT, Try.underlying7]
theorem ze7 : zeroV Try.prog 7 = Option.some (Go.Value.agg #[Go.Value.int Go.IntKind.i64 0, Go.Value.int Go.IntKind.i64 0, Go.Value.bool Bool.false, Go.Value.int Go.IntKind.u8 0]) := (zeroV_of Try.type7).trans rfl
theorem sz8 : sizeT Try.prog 8 = 4 := (sizeT_of Try.type8).trans rfl
theorem by8 : bytesT Try.prog 8 = 24 := (bytesT_of Try.type8).trans rfl
theorem kn8 : known Try.prog 8 = true := known_of Try.type8 Try.underlying8
theorem ag8 : isAggT Try.prog 8 = true := by simp only [isAggT, Try.underlying8]
theorem ze8 : zeroV Try.prog 8 = Option.some (Go.Value.agg #[Go.Value.int Go.IntKind.i64 0, Go.Value.int Go.IntKind.i64 0, Go.Value.bool Bool.false, Go.Value.int Go.IntKind.u8 0]) := (zeroV_of Try.type8).trans rfl
theorem sz9 : sizeT Try.prog 9 = 1 := (sizeT_of Try.type9).trans rfl
theorem by9 : bytesT Try.prog 9 = 16 := (bytesT_of Try.type9).trans rfl
theorem kn9 : known Try.prog 9 = true := known_of Try.type9 Try.underlying9
theorem ag9 : isAggT Try.prog 9 = false := by simp only [isAggT, Try.underlying9]
theorem ze9 : zeroV Try.prog 9 = Option.some (Go.Value.string { data := #[] }) := (zeroV_of Try.type9).trans rfl
theorem sz10 : sizeT Try.prog 10 = 1 := (sizeT_of Try.type10).trans rfl
theorem by10 : bytesT Try.prog 10 = 16 := (bytesT_of Try.type10).trans rfl
theorem kn10 : known Try.prog 10 = true := known_of Try.type10 Try.underlying10
theorem ag10 : isAggT Try.prog 10 = false := by simp only [isAggT, Try.underlying10]
theorem ze10 : zeroV Try.prog 10 = Option.some (Go.Value.string { data := #[] }) := (zeroV_of Try.type10).trans rfl
theorem sz11 : sizeT Try.prog 11 = 1 := (sizeT_of Try.type11).trans rfl
theorem by11 : bytesT Try.prog 11 = 16 := (bytesT_of Try.type11).trans rfl
theorem kn11 : known Try.prog 11 = true := known_of Try.type11 Try.underlying11
theorem ag11 : isAggT Try.prog 11 = false := by simp only [isAggT, Try.underlying11]
theorem ze11 : zeroV Try.prog 11 = Option.some (Go.Value.string { data := #[] }) := (zeroV_of Try.type11).trans rfl
theorem sz12 : sizeT Try.prog 12 = 1 := (sizeT_of Try.type12).trans rfl
theorem by12 : bytesT Try.prog 12 = 8 := (bytesT_of Try.type12).trans rfl
theorem kn12 : known Try.prog 12 = true := known_of Try.type12 Try.underlying12
theorem ag12 : isAggT Try.prog 12 = false := by simp only [isAggT, Try.underlying12]
theorem ze12 : zeroV Try.prog 12 = Option.some (Go.Value.int Go.IntKind.u64 0) := (zeroV_of Try.type12).trans rfl
theorem sz13 : sizeT Try.prog 13 = 2 := (sizeT_of Try.type13).trans rfl
theorem by13 : bytesT Try.prog 13 = 24 := (bytesT_of Try.type13).trans rfl
theorem kn13 : known Try.prog 13 = true := known_of Try.type13 Try.underlying13
theorem ag13 : isAggT Try.prog 13 = true := by simp only [isAggT, Try.underlying13]
theorem ze13 : zeroV Try.prog 13 = Option.some (Go.Value.agg #[Go.Value.string { data := #[] }, Go.Value.int Go.IntKind.u64 0]) := (zeroV_of Try.type13).trans rfl
theorem sz14 : sizeT Try.prog 14 = 2 := (sizeT_of Try.type14).trans rfl
theorem by14 : bytesT Try.prog 14 = 24 := (bytesT_of Try.type14).trans rfl
theorem kn14 : known Try.prog 14 = true := known_of Try.type14 Try.underlying14
theorem ag14 : isAggT Try.prog 14 = true := by simp only [isAggT, Try.underlying14]
theorem ze14 : zeroV Try.prog 14 = Option.some (Go.Value.agg #[Go.Value.string { data := #[] }, Go.Value.int Go.IntKind.u64 0]) := (zeroV_of Try.type14).trans rfl
theorem sz15 : sizeT Try.prog 15 = 1 := (sizeT_of Try.type15).trans rfl
theorem by15 : bytesT Try.prog 15 = 8 := (bytesT_of Try.type15).trans rfl
theorem kn15 : known Try.prog 15 = true := known_of Try.type15 Try.underlying15
theorem ag15 : isAggT Try.prog 15 = false := by simp only [isAggT, Try.underlying15]
theorem ze15 : zeroV Try.prog 15 = Option.some (Go.Value.pointer Option.none) := (zeroV_of Try.type15).trans rfl
theorem sz16 : sizeT Try.prog 16 = 1 := (sizeT_of Try.type16).trans rfl
theorem by16 : bytesT Try.prog 16 = 8 := (bytesT_of Try.type16).trans rfl
theorem kn16 : known Try.prog 16 = true := known_of Try.type16 Try.underlying16
theorem ag16 : isAggT Try.prog 16 = false := by simp only [isAggT, Try.underlying16]
theorem ze16 : zeroV Try.prog 16 = Option.some (Go.Value.pointer Option.none) := (zeroV_of Try.type16).trans rfl
theorem sz17 : sizeT Try.prog 17 = 1 := (sizeT_of Try.type17).trans rfl
theorem by17 : bytesT Try.prog 17 = 8 := (bytesT_of Try.type17).trans rfl
theorem kn17 : known Try.prog 17 = true := known_of Try.type17 Try.underlying17
theorem ag17 : isAggT Try.prog 17 = false := by simp only [isAggT, Try.underlying17]
theorem ze17 : zeroV Try.prog 17 = Option.some (Go.Value.pointer Option.none) := (zeroV_of Try.type17).trans rfl
theorem sz18 : sizeT Try.prog 18 = 1 := (sizeT_of Try.type18).trans rfl
theorem by18 : bytesT Try.prog 18 = 8 := (bytesT_of Try.type18).trans rfl
theorem kn18 : known Try.prog 18 = true := known_of Try.type18 Try.underlying18
theorem ag18 : isAggT Try.prog 18 = true := by simp only [isAggT, Try.underlying18]
theorem ze18 : zeroV Try.prog 18 = Option.some (Go.Value.agg #[Go.Value.pointer Option.none]) := (zeroV_of Try.type18).trans rfl
theorem sz19 : sizeT Try.prog 19 = 1 := (sizeT_of Try.type19).trans rfl
theorem by19 : bytesT Try.prog 19 = 8 := (bytesT_of Try.type19).trans rfl
theorem kn19 : known Try.prog 19 = true := known_of Try.type19 Try.underlying19
theorem ag19 : isAggT Try.prog 19 = true := by simp only [isAggT, Try.underlying19]
theorem ze19 : zeroV Try.prog 19 = Option.some (Go.Value.agg #[Go.Value.pointer Option.none]) := (zeroV_of Try.type19).trans rfl
theorem sz20 : sizeT Try.prog 20 = 1 := (sizeT_of Try.type20).trans rfl
theorem by20 : bytesT Try.prog 20 = 16 := (bytesT_of Try.type20).trans rfl
theorem kn20 : known Try.prog 20 = true := known_of Try.type20 Try.underlying20
theorem ag20 : isAggT Try.prog 20 = false := by simp only [isAggT, Try.underlying20]
theorem ze20 : zeroV Try.prog 20 = Option.some Go.Value.nilIface := (zeroV_of Try.type20).trans rfl
theorem sz21 : sizeT Try.prog 21 = 1 := (sizeT_of Try.type21).trans rfl
theorem by21 : bytesT Try.prog 21 = 4 := (bytesT_of Try.type21).trans rfl
theorem kn21 : known Try.prog 21 = true := known_of Try.type21 Try.underlying21
theorem ag21 : isAggT Try.prog 21 = false := by simp only [isAggT, Try.underlying21]
theorem ze21 : zeroV Try.prog 21 = Option.some (Go.Value.int Go.IntKind.i32 0) := (zeroV_of Try.type21).trans rfl
theorem sz22 : sizeT Try.prog 22 = 1 := (sizeT_of Try.type22).trans rfl
theorem by22 : bytesT Try.prog 22 = 24 := (bytesT_of Try.type22).trans rfl
theorem kn22 : known Try.prog 22 = true := known_of Try.type22 Try.underlying22
theorem ag22 : isAggT Try.prog 22 = false := by simp only [isAggT, Try.underlying22]
theorem ze22 : zeroV Try.prog 22 = Option.some (Go.Value.slice Option.none 0 0) := (zeroV_of Try.type22).trans rfl
theorem sz23 : sizeT Try.prog 23 = 1 := (sizeT_of Try.type23).trans rfl
theorem by23 : bytesT Try.prog 23 = 8 := (bytesT_of Try.type23).trans rfl
theorem kn23 : known Try.prog 23 = true := known_of Try.type23 Try.underlying23
theorem ag23 : isAggT Try.prog 23 = false := by simp only [isAggT, Try.underlying23]
theorem ze23 : zeroV Try.prog 23 = Option.some Go.Value.nilFunc := (zeroV_of Try.type23).trans rfl
theorem sz24 : sizeT Try.prog 24 = 1 := (sizeT_of Try.type24).trans rfl
theorem by24 : bytesT Try.prog 24 = 24 := (bytesT_of Try.type24).trans rfl
theorem kn24 : known Try.prog 24 = true := known_of Try.type24 Try.underlying24
theorem ag24 : isAggT Try.prog 24 = false := by simp only [isAggT, Try.underlying24]
theorem ze24 : zeroV Try.prog 24 = Option.some (Go.Value.slice Option.none 0 0) := (zeroV_of Try.type24).trans rfl
theorem sz25 : sizeT Try.prog 25 = 1 := (sizeT_of Try.type25).trans rfl
theorem by25 : bytesT Try.prog 25 = 8 := (bytesT_of Try.type25).trans rfl
theorem kn25 : known Try.prog 25 = true := known_of Try.type25 Try.underlying25
theorem ag25 : isAggT Try.prog 25 = false := by simp only [isAggT, Try.underlying25]
theorem ze25 : zeroV Try.prog 25 = Option.some Go.Value.nilFunc := (zeroV_of Try.type25).trans rfl
theorem sz26 : sizeT Try.prog 26 = 1 := (sizeT_of Try.type26).trans rfl
theorem by26 : bytesT Try.prog 26 = 8 := (bytesT_of Try.type26).trans rfl
theorem kn26 : known Try.prog 26 = true := known_of Try.type26 Try.underlying26
theorem ag26 : isAggT Try.prog 26 = false := by simp only [isAggT, Try.underlying26]
theorem ze26 : zeroV Try.prog 26 = Option.some Go.Value.nilFunc := (zeroV_of Try.type26).trans rfl
theorem sz27 : sizeT Try.prog 27 = 1 := (sizeT_of Try.type27).trans rfl
theorem by27 : bytesT Try.prog 27 = 24 := (bytesT_of Try.type27).trans rfl
theorem kn27 : known Try.prog 27 = true := known_of Try.type27 Try.underlying27
theorem ag27 : isAggT Try.prog 27 = false := by simp only [isAggT, Try.underlying27]
theorem ze27 : zeroV Try.prog 27 = Option.some (Go.Value.slice Option.none 0 0) := (zeroV_of Try.type27).trans rfl
theorem sz28 : sizeT Try.prog 28 = 8 := (sizeT_of Try.type28).trans rfl
theorem by28 : bytesT Try.prog 28 = 96 := (bytesT_of Try.type28).trans rfl
theorem kn28 : known Try.prog 28 = true := known_of Try.type28 Try.underlying28
theorem ag28 : isAggT Try.prog 28 = true := by simp only [isAggT, Try.underlying28]
theorem ze28 : zeroV Try.prog 28 = Option.some (Go.Value.agg #[Go.Value.string { data := #[] }, Go.Value.int Go.IntKind.i64 0, Go.Value.int Go.IntKind.i64 0, Go.Value.int Go.IntKind.i64 0, Go.Value.int Go.IntKind.i64 0, Go.Value.int Go.IntKind.i64 0, Go.Value.string { data := #[] }, Go.Value.slice Option.none 0 0]) := (zeroV_of Try.type28).trans rfl
theorem sz29 : sizeT Try.prog 29 = 8 := (sizeT_of Try.type29).trans rfl
theorem by29 : bytesT Try.prog 29 = 96 := (bytesT_of Try.type29).trans rfl
theorem kn29 : known Try.prog 29 = true := known_of Try.type29 Try.underlying29
theorem ag29 : isAggT Try.prog 29 = true := by simp only [isAggT, Try.underlying29]
theorem ze29 : zeroV Try.prog 29 = Option.some (Go.Value.agg #[Go.Value.string { data := #[] }, Go.Value.int Go.IntKind.i64 0, Go.Value.int Go.IntKind.i64 0, Go.Value.int Go.IntKind.i64 0, Go.Value.int Go.IntKind.i64 0, Go.Value.int Go.IntKind.i64 0, Go.Value.string { data := #[] }, Go.Value.slice Option.none 0 0]) := (zeroV_of Try.type29).trans rfl
theorem sz30 : sizeT Try.prog 30 = 1 := (sizeT_of Try.type30).trans rfl
theorem by30 : bytesT Try.prog 30 = 8 := (bytesT_of Try.type30).trans rfl
theorem kn30 : known Try.prog 30 = true := known_of Try.type30 Try.underlying30
theorem ag30 : isAggT Try.prog 30 = false := by simp only [isAggT, Try.underlying30]
theorem ze30 : zeroV Try.prog 30 = Option.some Go.Value.nilFunc := (zeroV_of Try.type30).trans rfl
theorem sz31 : sizeT Try.prog 31 = 1 := (sizeT_of Try.type31).trans rfl
theorem by31 : bytesT Try.prog 31 = 8 := (bytesT_of Try.type31).trans rfl
theorem kn31 : known Try.prog 31 = true := known_of Try.type31 Try.underlying31
theorem ag31 : isAggT Try.prog 31 = false := by simp only [isAggT, Try.underlying31]
theorem ze31 : zeroV Try.prog 31 = Option.some Go.Value.nilFunc := (zeroV_of Try.type31).trans rfl
theorem sz32 : sizeT Try.prog 32 = 1 := (sizeT_of Try.type32).trans rfl
theorem by32 : bytesT Try.prog 32 = 8 := (bytesT_of Try.type32).trans rfl
theorem kn32 : known Try.prog 32 = true := known_of Try.type32 Try.underlying32
theorem ag32 : isAggT Try.prog 32 = false := by simp only [isAggT, Try.underlying32]
theorem ze32 : zeroV Try.prog 32 = Option.some Go.Value.nilFunc := (zeroV_of Try.type32).trans rfl
theorem sz33 : sizeT Try.prog 33 = 1 := (sizeT_of Try.type33).trans rfl
theorem by33 : bytesT Try.prog 33 = 8 := (bytesT_of Try.type33).trans rfl
theorem kn33 : known Try.prog 33 = true := known_of Try.type33 Try.underlying33
theorem ag33 : isAggT Try.prog 33 = false := by simp only [isAggT, Try.underlying33]
theorem ze33 : zeroV Try.prog 33 = Option.some Go.Value.nilFunc := (zeroV_of Try.type33).trans rfl
theorem sz34 : sizeT Try.prog 34 = 3 := (sizeT_of Try.type34).trans rfl
theorem by34 : bytesT Try.prog 34 = 32 := (bytesT_of Try.type34).trans rfl
theorem kn34 : known Try.prog 34 = true := known_of Try.type34 Try.underlying34
theorem ag34 : isAggT Try.prog 34 = true := by simp only [isAggT, Try.underlying34]
theorem ze34 : zeroV Try.prog 34 = Option.some (Go.Value.agg #[Go.Value.string { data := #[] }, Go.Value.int Go.IntKind.i64 0, Go.Value.int Go.IntKind.i64 0]) := (zeroV_of Try.type34).trans rfl
theorem sz35 : sizeT Try.prog 35 = 3 := (sizeT_of Try.type35).trans rfl
theorem by35 : bytesT Try.prog 35 = 32 := (bytesT_of Try.type35).trans rfl
theorem kn35 : known Try.prog 35 = true := known_of Try.type35 Try.underlying35
theorem ag35 : isAggT Try.prog 35 = true := by simp only [isAggT, Try.underlying35]
theorem ze35 : zeroV Try.prog 35 = Option.some (Go.Value.agg #[Go.Value.string { data := #[] }, Go.Value.int Go.IntKind.i64 0, Go.Value.int Go.IntKind.i64 0]) := (zeroV_of Try.type35).trans rfl
theorem sz36 : sizeT Try.prog 36 = 1 := (sizeT_of Try.type36).trans rfl
theorem by36 : bytesT Try.prog 36 = 24 := (bytesT_of Try.type36).trans rfl
theorem kn36 : known Try.prog 36 = true := known_of Try.type36 Try.underlying36
theorem ag36 : isAggT Try.prog 36 = false := by simp only [isAggT, Try.underlying36]
theorem ze36 : zeroV Try.prog 36 = Option.some (Go.Value.slice Option.none 0 0) := (zeroV_of Try.type36).trans rfl
theorem sz37 : sizeT Try.prog 37 = 5 := (sizeT_of Try.type37).trans rfl
theorem by37 : bytesT Try.prog 37 = 64 := (bytesT_of Try.type37).trans rfl
theorem kn37 : known Try.prog 37 = true := known_of Try.type37 Try.underlying37
theorem ag37 : isAggT Try.prog 37 = true := by simp only [isAggT, Try.underlying37]
theorem ze37 : zeroV Try.prog 37 = Option.some (Go.Value.agg #[Go.Value.string { data := #[] }, Go.Value.int Go.IntKind.i64 0, Go.Value.int Go.IntKind.i64 0, Go.Value.int Go.IntKind.i64 0, Go.Value.slice Option.none 0 0]) := (zeroV_of Try.type37).trans rfl
theorem sz38 : sizeT Try.prog 38 = 5 := (sizeT_of Try.type38).trans rfl
theorem by38 : bytesT Try.prog 38 = 64 := (bytesT_of Try.type38).trans rfl
theorem kn38 : known Try.prog 38 = true := known_of Try.type38 Try.underlying38
theorem ag38 : isAggT Try.prog 38 = true := by simp only [isAggT, Try.underlying38]
theorem ze38 : zeroV Try.prog 38 = Option.some (Go.Value.agg #[Go.Value.string { data := #[] }, Go.Value.int Go.IntKind.i64 0, Go.Value.int Go.IntKind.i64 0, Go.Value.int Go.IntKind.i64 0, Go.Value.slice Option.none 0 0]) := (zeroV_of Try.type38).trans rfl
theorem sz39 : sizeT Try.prog 39 = 1 := (sizeT_of Try.type39).trans rfl
theorem by39 : bytesT Try.prog 39 = 8 := (bytesT_of Try.type39).trans rfl
theorem kn39 : known Try.prog 39 = true := known_of Try.type39 Try.underlying39
theorem ag39 : isAggT Try.prog 39 = false := by simp only [isAggT, Try.underlying39]
theorem ze39 : zeroV Try.prog 39 = Option.some (Go.Value.int Go.IntKind.i64 0) := (zeroV_of Try.type39).trans rfl
theorem sz40 : sizeT Try.prog 40 = 1 := (sizeT_of Try.type40).trans rfl
theorem by40 : bytesT Try.prog 40 = 0 := (bytesT_of Try.type40).trans rfl
theorem kn40 : known Try.prog 40 = true := known_of Try.type40 Try.underlying40
theorem ag40 : isAggT Try.prog 40 = false := by simp only [isAggT, Try.underlying40]
theorem ze40 : zeroV Try.prog 40 = Option.some (Go.Value.tuple #[Go.Value.agg #[Go.Value.string { data := #[] }, Go.Value.int Go.IntKind.i64 0, Go.Value.int Go.IntKind.i64 0, Go.Value.int Go.IntKind.i64 0, Go.Value.int Go.IntKind.i64 0, Go.Value.int Go.IntKind.i64 0, Go.Value.string { data := #[] }, Go.Value.slice Option.none 0 0], Go.Value.int Go.IntKind.i64 0]) := (zeroV_of Try.type40).trans rfl
theorem sz41 : sizeT Try.prog 41 = 1 := (sizeT_of Try.type41).trans rfl
theorem by41 : bytesT Try.prog 41 = 8 := (bytesT_of Try.type41).trans rfl
theorem kn41 : known Try.prog 41 = true := known_of Try.type41 Try.underlying41
theorem ag41 : isAggT Try.prog 41 = false := by simp only [isAggT, Try.underlying41]
theorem ze41 : zeroV Try.prog 41 = Option.some Go.Value.nilFunc := (zeroV_of Try.type41).trans rfl
theorem sz42 : sizeT Try.prog 42 = 1 := (sizeT_of Try.type42).trans rfl
theorem by42 : bytesT Try.prog 42 = 8 := (bytesT_of Try.type42).trans rfl
theorem kn42 : known Try.prog 42 = true := known_of Try.type42 Try.underlying42
theorem ag42 : isAggT Try.prog 42 = false := by simp only [isAggT, Try.underlying42]
theorem ze42 : zeroV Try.prog 42 = Option.some Go.Value.nilFunc := (zeroV_of Try.type42).trans rfl
theorem sz43 : sizeT Try.prog 43 = 1 := (sizeT_of Try.type43).trans rfl
theorem by43 : bytesT Try.prog 43 = 8 := (bytesT_of Try.type43).trans rfl
theorem kn43 : known Try.prog 43 = true := known_of Try.type43 Try.underlying43
theorem ag43 : isAggT Try.prog 43 = false := by simp only [isAggT, Try.underlying43]
theorem ze43 : zeroV Try.prog 43 = Option.some Go.Value.nilFunc := (zeroV_of Try.type43).trans rfl
theorem sz44 : sizeT Try.prog 44 = 1 := (sizeT_of Try.type44).trans rfl
theorem by44 : bytesT Try.prog 44 = 8 := (bytesT_of Try.type44).trans rfl
theorem kn44 : known Try.prog 44 = true := known_of Try.type44 Try.underlying44
theorem ag44 : isAggT Try.prog 44 = false := by simp only [isAggT, Try.underlying44]
theorem ze44 : zeroV Try.prog 44 = Option.some Go.Value.nilFunc := (zeroV_of Try.type44).trans rfl
theorem sz45 : sizeT Try.prog 45 = 1 := (sizeT_of Try.type45).trans rfl
theorem by45 : bytesT Try.prog 45 = 8 := (bytesT_of Try.type45).trans rfl
theorem kn45 : known Try.prog 45 = true := known_of Try.type45 Try.underlying45
theorem ag45 : isAggT Try.prog 45 = false := by simp only [isAggT, Try.underlying45]
theorem ze45 : zeroV Try.prog 45 = Option.some Go.Value.nilFunc := (zeroV_of Try.type45).trans rfl
theorem sz46 : sizeT Try.prog 46 = 1 := (sizeT_of Try.type46).trans rfl
theorem by46 : bytesT Try.prog 46 = 8 := (bytesT_of Try.type46).trans rfl
theorem kn46 : known Try.prog 46 = true := known_of Try.type46 Try.underlying46
theorem ag46 : isAggT Try.prog 46 = false := by simp only [isAggT, Try.underlying46]
theorem ze46 : zeroV Try.prog 46 = Option.some Go.Value.nilFunc := (zeroV_of Try.type46).trans rfl
theorem sz47 : sizeT Try.prog 47 = 1 := (sizeT_of Try.type47).trans rfl
theorem by47 : bytesT Try.prog 47 = 8 := (bytesT_of Try.type47).trans rfl
theorem kn47 : known Try.prog 47 = true := known_of Try.type47 Try.underlying47
theorem ag47 : isAggT Try.prog 47 = false := by simp only [isAggT, Try.underlying47]
theorem ze47 : zeroV Try.prog 47 = Option.some Go.Value.nilFunc := (zeroV_of Try.type47).trans rfl
theorem sz48 : sizeT Try.prog 48 = 1 := (sizeT_of Try.type48).trans rfl
theorem by48 : bytesT Try.prog 48 = 24 := (bytesT_of Try.type48).trans rfl
theorem kn48 : known Try.prog 48 = true := known_of Try.type48 Try.underlying48
theorem ag48 : isAggT Try.prog 48 = false := by simp only [isAggT, Try.underlying48]
theorem ze48 : zeroV Try.prog 48 = Option.some (Go.Value.slice Option.none 0 0) := (zeroV_of Try.type48).trans rfl
theorem sz49 : sizeT Try.prog 49 = 1 := (sizeT_of Try.type49).trans rfl
theorem by49 : bytesT Try.prog 49 = 8 := (bytesT_of Try.type49).trans rfl
theorem kn49 : known Try.prog 49 = true := known_of Try.type49 Try.underlying49
theorem ag49 : isAggT Try.prog 49 = false := by simp only [isAggT, Try.underlying49]
theorem ze49 : zeroV Try.prog 49 = Option.some Go.Value.nilFunc := (zeroV_of Try.type49).trans rfl
theorem sz50 : sizeT Try.prog 50 = 3 := (sizeT_of Try.type50).trans rfl
theorem by50 : bytesT Try.prog 50 = 32 := (bytesT_of Try.type50).trans rfl
theorem kn50 : known Try.prog 50 = true := known_of Try.type50 Try.underlying50
theorem ag50 : isAggT Try.prog 50 = true := by simp only [isAggT, Try.underlying50]
theorem ze50 : zeroV Try.prog 50 = Option.some (Go.Value.agg #[Go.Value.string { data := #[] }, Go.Value.int Go.IntKind.i64 0, Go.Value.int Go.IntKind.i64 0]) := (zeroV_of Try.type50).trans rfl
theorem sz51 : sizeT Try.prog 51 = 3 := (sizeT_of Try.type51).trans rfl
theorem by51 : bytesT Try.prog 51 = 32 := (bytesT_of Try.type51).trans rfl
theorem kn51 : known Try.prog 51 = true := known_of Try.type51 Try.underlying51
theorem ag51 : isAggT Try.prog 51 = true := by simp only [isAggT, Try.underlying51]
theorem ze51 : zeroV Try.prog 51 = Option.some (Go.Value.agg #[Go.Value.string { data := #[] }, Go.Value.int Go.IntKind.i64 0, Go.Value.int Go.IntKind.i64 0]) := (zeroV_of Try.type51).trans rfl
theorem sz52 : sizeT Try.prog 52 = 1 := (sizeT_of Try.type52).trans rfl
theorem by52 : bytesT Try.prog 52 = 8 := (bytesT_of Try.type52).trans rfl
theorem kn52 : known Try.prog 52 = true := known_of Try.type52 Try.underlying52
theorem ag52 : isAggT Try.prog 52 = false := by simp only [isAggT, Try.underlying52]
theorem ze52 : zeroV Try.prog 52 = Option.some Go.Value.nilFunc := (zeroV_of Try.type52).trans rfl
theorem sz53 : sizeT Try.prog 53 = 1 := (sizeT_of Try.type53).trans rfl
theorem by53 : bytesT Try.prog 53 = 8 := (bytesT_of Try.type53).trans rfl
theorem kn53 : known Try.prog 53 = true := known_of Try.type53 Try.underlying53
theorem ag53 : isAggT Try.prog 53 = false := by simp only [isAggT, Try.underlying53]
theorem ze53 : zeroV Try.prog 53 = Option.some Go.Value.nilFunc := (zeroV_of Try.type53).trans rfl
theorem sz54 : sizeT Try.prog 54 = 1 := (sizeT_of Try.type54).trans rfl
theorem by54 : bytesT Try.prog 54 = 8 := (bytesT_of Try.type54).trans rfl
theorem kn54 : known Try.prog 54 = true := known_of Try.type54 Try.underlying54
theorem ag54 : isAggT Try.prog 54 = false := by simp only [isAggT, Try.underlying54]
theorem ze54 : zeroV Try.prog 54 = Option.some Go.Value.nilFunc := (zeroV_of Try.type54).trans rfl
theorem sz55 : sizeT Try.prog 55 = 1 := (sizeT_of Try.type55).trans rfl
theorem by55 : bytesT Try.prog 55 = 8 := (bytesT_of Try.type55).trans rfl
theorem kn55 : known Try.prog 55 = true := known_of Try.type55 Try.underlying55
theorem ag55 : isAggT Try.prog 55 = false := by simp only [isAggT, Try.underlying55]
theorem ze55 : zeroV Try.prog 55 = Option.some Go.Value.nilFunc := (zeroV_of Try.type55).trans rfl
theorem sz56 : sizeT Try.prog 56 = 1 := (sizeT_of Try.type56).trans rfl
theorem by56 : bytesT Try.prog 56 = 8 := (bytesT_of Try.type56).trans rfl
theorem kn56 : known Try.prog 56 = true := known_of Try.type56 Try.underlying56
theorem ag56 : isAggT Try.prog 56 = false := by simp only [isAggT, Try.underlying56]
theorem ze56 : zeroV Try.prog 56 = Option.some Go.Value.nilFunc := (zeroV_of Try.type56).trans rfl
theorem sz57 : sizeT Try.prog 57 = 1 := (sizeT_of Try.type57).trans rfl
theorem by57 : bytesT Try.prog 57 = 8 := (bytesT_of Try.type57).trans rfl
theorem kn57 : known Try.prog 57 = true := known_of Try.type57 Try.underlying57
theorem ag57 : isAggT Try.prog 57 = false := by simp only [isAggT, Try.underlying57]
theorem ze57 : zeroV Try.prog 57 = Option.some Go.Value.nilFunc := (zeroV_of Try.type57).trans rfl
theorem sz58 : sizeT Try.prog 58 = 1 := (sizeT_of Try.type58).trans rfl
theorem by58 : bytesT Try.prog 58 = 8 := (bytesT_of Try.type58).trans rfl
theorem kn58 : known Try.prog 58 = true := known_of Try.type58 Try.underlying58
theorem ag58 : isAggT Try.prog 58 = false := by simp only [isAggT, Try.underlying58]
theorem ze58 : zeroV Try.prog 58 = Option.some Go.Value.nilFunc := (zeroV_of Try.type58).trans rfl
theorem sz59 : sizeT Try.prog 59 = 1 := (sizeT_of Try.type59).trans rfl
theorem by59 : bytesT Try.prog 59 = 8 := (bytesT_of Try.type59).trans rfl
theorem kn59 : known Try.prog 59 = true := known_of Try.type59 Try.underlying59
theorem ag59 : isAggT Try.prog 59 = false := by simp only [isAggT, Try.underlying59]
theorem ze59 : zeroV Try.prog 59 = Option.some Go.Value.nilFunc := (zeroV_of Try.type59).trans rfl
theorem sz60 : sizeT Try.prog 60 = 7 := (sizeT_of Try.type60).trans rfl
theorem by60 : bytesT Try.prog 60 = 72 := (bytesT_of Try.type60).trans rfl
theorem kn60 : known Try.prog 60 = true := known_of Try.type60 Try.underlying60
theorem ag60 : isAggT Try.prog 60 = true := by simp only [isAggT, Try.underlying60]
theorem ze60 : zeroV Try.prog 60 = Option.some (Go.Value.agg #[Go.Value.string { data := #[] }, Go.Value.string { data := #[] }, Go.Value.int Go.IntKind.i64 0, Go.Value.int Go.IntKind.i64 0, Go.Value.int Go.IntKind.i64 0, Go.Value.int Go.IntKind.i64 0, Go.Value.int Go.IntKind.i64 0]) := (zeroV_of Try.type60).trans rfl
theorem sz61 : sizeT Try.prog 61 = 7 := (sizeT_of Try.type61).trans rfl
theorem by61 : bytesT Try.prog 61 = 72 := (bytesT_of Try.type61).trans rfl
theorem kn61 : known Try.prog 61 = true := known_of Try.type61 Try.underlying61
theorem ag61 : isAggT Try.prog 61 = true := by simp only [isAggT, Try.underlying61]
theorem ze61 : zeroV Try.prog 61 = Option.some (Go.Value.agg #[Go.Value.string { data := #[] }, Go.Value.string { data := #[] }, Go.Value.int Go.IntKind.i64 0, Go.Value.int Go.IntKind.i64 0, Go.Value.int Go.IntKind.i64 0, Go.Value.int Go.IntKind.i64 0, Go.Value.int Go.IntKind.i64 0]) := (zeroV_of Try.type61).trans rfl
theorem sz62 : sizeT Try.prog 62 = 1 := (sizeT_of Try.type62).trans rfl
theorem by62 : bytesT Try.prog 62 = 0 := (bytesT_of Try.type62).trans rfl
theorem kn62 : known Try.prog 62 = true := known_of Try.type62 Try.underlying62
theorem ag62 : isAggT Try.prog 62 = false := by simp only [isAggT, Try.underlying62]
theorem ze62 : zeroV Try.prog 62 = Option.some (Go.Value.tuple #[Go.Value.agg #[Go.Value.string { data := #[] }, Go.Value.string { data := #[] }, Go.Value.int Go.IntKind.i64 0, Go.Value.int Go.IntKind.i64 0, Go.Value.int Go.IntKind.i64 0, Go.Value.int Go.IntKind.i64 0, Go.Value.int Go.IntKind.i64 0], Go.Value.bool Bool.false]) := (zeroV_of Try.type62).trans rfl
theorem sz63 : sizeT Try.prog 63 = 1 := (sizeT_of Try.type63).trans rfl
theorem by63 : bytesT Try.prog 63 = 8 := (bytesT_of Try.type63).trans rfl
theorem kn63 : known Try.prog 63 = true := known_of Try.type63 Try.underlying63
theorem ag63 : isAggT Try.prog 63 = false := by simp only [isAggT, Try.underlying63]
theorem ze63 : zeroV Try.prog 63 = Option.some Go.Value.nilFunc := (zeroV_of Try.type63).trans rfl
theorem sz64 : sizeT Try.prog 64 = 1 := (sizeT_of Try.type64).trans rfl
theorem by64 : bytesT Try.prog 64 = 8 := (bytesT_of Try.type64).trans rfl
theorem kn64 : known Try.prog 64 = true := known_of Try.type64 Try.underlying64
theorem ag64 : isAggT Try.prog 64 = false := by simp only [isAggT, Try.underlying64]
theorem ze64 : zeroV Try.prog 64 = Option.some Go.Value.nilFunc := (zeroV_of Try.type64).trans rfl
theorem sz65 : sizeT Try.prog 65 = 1 := (sizeT_of Try.type65).trans rfl
theorem by65 : bytesT Try.prog 65 = 8 := (bytesT_of Try.type65).trans rfl
theorem kn65 : known Try.prog 65 = true := known_of Try.type65 Try.underlying65
theorem ag65 : isAggT Try.prog 65 = false := by simp only [isAggT, Try.underlying65]
theorem ze65 : zeroV Try.prog 65 = Option.some (Go.Value.map Option.none) := (zeroV_of Try.type65).trans rfl
theorem sz66 : sizeT Try.prog 66 = 1 := (sizeT_of Try.type66).trans rfl
theorem by66 : bytesT Try.prog 66 = 0 := (bytesT_of Try.type66).trans rfl
theorem kn66 : known Try.prog 66 = true := known_of Try.type66 Try.underlying66
theorem ag66 : isAggT Try.prog 66 = false := by simp only [isAggT, Try.underlying66]
theorem ze66 : zeroV Try.prog 66 = Option.some (Go.Value.tuple #[Go.Value.agg #[Go.Value.string { data := #[] }, Go.Value.int Go.IntKind.i64 0, Go.Value.int Go.IntKind.i64 0], Go.Value.bool Bool.false]) := (zeroV_of Try.type66).trans rfl
theorem sz67 : sizeT Try.prog 67 = 1 := (sizeT_of Try.type67).trans rfl
theorem by67 : bytesT Try.prog 67 = 0 := (bytesT_of Try.type67).trans rfl
theorem kn67 : known Try.prog 67 = true := known_of Try.type67 Try.underlying67
theorem ag67 : isAggT Try.prog 67 = false := by simp only [isAggT, Try.underlying67]
theorem ze67 : zeroV Try.prog 67 = Option.some (Go.Value.tuple #[Go.Value.int Go.IntKind.i64 0, Go.Value.bool Bool.false]) := (zeroV_of Try.type67).trans rfl
theorem sz68 : sizeT Try.prog 68 = 1 := (sizeT_of Try.type68).trans rfl
theorem by68 : bytesT Try.prog 68 = 8 := (bytesT_of Try.type68).trans rfl
theorem kn68 : known Try.prog 68 = true := known_of Try.type68 Try.underlying68
theorem ag68 : isAggT Try.prog 68 = false := by simp only [isAggT, Try.underlying68]
theorem ze68 : zeroV Try.prog 68 = Option.some Go.Value.nilFunc := (zeroV_of Try.type68).trans rfl
theorem sz69 : sizeT Try.prog 69 = 1 := (sizeT_of Try.type69).trans rfl
theorem by69 : bytesT Try.prog 69 = 8 := (bytesT_of Try.type69).trans rfl
theorem kn69 : known Try.prog 69 = true := known_of Try.type69 Try.underlying69
theorem ag69 : isAggT Try.prog 69 = false := by simp only [isAggT, Try.underlying69]
theorem ze69 : zeroV Try.prog 69 = Option.some Go.Value.nilFunc := (zeroV_of Try.type69).trans rfl
theorem sz70 : sizeT Try.prog 70 = 1 := (sizeT_of Try.type70).trans rfl
theorem by70 : bytesT Try.prog 70 = 8 := (bytesT_of Try.type70).trans rfl
theorem kn70 : known Try.prog 70 = true := known_of Try.type70 Try.underlying70
theorem ag70 : isAggT Try.prog 70 = false := by simp only [isAggT, Try.underlying70]
theorem ze70 : zeroV Try.prog 70 = Option.some Go.Value.nilFunc := (zeroV_of Try.type70).trans rfl
theorem sz71 : sizeT Try.prog 71 = 1 := (sizeT_of Try.type71).trans rfl
theorem by71 : bytesT Try.prog 71 = 8 := (bytesT_of Try.type71).trans rfl
theorem kn71 : known Try.prog 71 = true := known_of Try.type71 Try.underlying71
theorem ag71 : isAggT Try.prog 71 = false := by simp only [isAggT, Try.underlying71]
theorem ze71 : zeroV Try.prog 71 = Option.some Go.Value.nilFunc := (zeroV_of Try.type71).trans rfl
theorem sz72 : sizeT Try.prog 72 = 1 := (sizeT_of Try.type72).trans rfl
theorem by72 : bytesT Try.prog 72 = 8 := (bytesT_of Try.type72).trans rfl
theorem kn72 : known Try.prog 72 = true := known_of Try.type72 Try.underlying72
theorem ag72 : isAggT Try.prog 72 = false := by simp only [isAggT, Try.underlying72]
theorem ze72 : zeroV Try.prog 72 = Option.some Go.Value.nilFunc := (zeroV_of Try.type72).trans rfl
theorem sz73 : sizeT Try.prog 73 = 1 := (sizeT_of Try.type73).trans rfl
theorem by73 : bytesT Try.prog 73 = 8 := (bytesT_of Try.type73).trans rfl
theorem kn73 : known Try.prog 73 = true := known_of Try.type73 Try.underlying73
theorem ag73 : isAggT Try.prog 73 = false := by simp only [isAggT, Try.underlying73]
theorem ze73 : zeroV Try.prog 73 = Option.some Go.Value.nilFunc := (zeroV_of Try.type73).trans rfl
theorem sz74 : sizeT Try.prog 74 = 1 := (sizeT_of Try.type74).trans rfl
theorem by74 : bytesT Try.prog 74 = 8 := (bytesT_of Try.type74).trans rfl
theorem kn74 : known Try.prog 74 = true := known_of Try.type74 Try.underlying74
theorem ag74 : isAggT Try.prog 74 = false := by simp only [isAggT, Try.underlying74]
theorem ze74 : zeroV Try.prog 74 = Option.some Go.Value.nilFunc := (zeroV_of Try.type74).trans rfl
theorem sz75 : sizeT Try.prog 75 = 1 := (sizeT_of Try.type75).trans rfl
theorem by75 : bytesT Try.prog 75 = 8 := (bytesT_of Try.type75).trans rfl
theorem kn75 : known Try.prog 75 = true := known_of Try.type75 Try.underlying75
theorem ag75 : isAggT Try.prog 75 = false := by simp only [isAggT, Try.underlying75]
theorem ze75 : zeroV Try.prog 75 = Option.some Go.Value.nilFunc := (zeroV_of Try.type75).trans rfl
theorem sz76 : sizeT Try.prog 76 = 1 := (sizeT_of Try.type76).trans rfl
theorem by76 : bytesT Try.prog 76 = 8 := (bytesT_of Try.type76).trans rfl
theorem kn76 : known Try.prog 76 = true := known_of Try.type76 Try.underlying76
theorem ag76 : isAggT Try.prog 76 = false := by simp only [isAggT, Try.underlying76]
theorem ze76 : zeroV Try.prog 76 = Option.some Go.Value.nilFunc := (zeroV_of Try.type76).trans rfl
theorem sz77 : sizeT Try.prog 77 = 9 := (sizeT_of Try.type77).trans rfl
theorem by77 : bytesT Try.prog 77 = 104 := (bytesT_of Try.type77).trans rfl
theorem kn77 : known Try.prog 77 = true := known_of Try.type77 Try.underlying77
theorem ag77 : isAggT Try.prog 77 = true := by simp only [isAggT, Try.underlying77]
theorem ze77 : zeroV Try.prog 77 = Option.some (Go.Value.agg #[Go.Value.bool Bool.false, Go.Value.string { data := #[] }, Go.Value.int Go.IntKind.i64 0, Go.Value.int Go.IntKind.i64 0, Go.Value.int Go.IntKind.i64 0, Go.Value.int Go.IntKind.i64 0, Go.Value.int Go.IntKind.i64 0, Go.Value.string { data := #[] }, Go.Value.slice Option.none 0 0]) := (zeroV_of Try.type77).trans rfl
theorem sz78 : sizeT Try.prog 78 = 9 := (sizeT_of Try.type78).trans rfl
theorem by78 : bytesT Try.prog 78 = 104 := (bytesT_of Try.type78).trans rfl
theorem kn78 : known Try.prog 78 = true := known_of Try.type78 Try.underlying78
theorem ag78 : isAggT Try.prog 78 = true := by simp only [isAggT, Try.underlying78]
theorem ze78 : zeroV Try.prog 78 = Option.some (Go.Value.agg #[Go.Value.bool Bool.false, Go.Value.string { data := #[] }, Go.Value.int Go.IntKind.i64 0, Go.Value.int Go.IntKind.i64 0, Go.Value.int Go.IntKind.i64 0, Go.Value.int Go.IntKind.i64 0, Go.Value.int Go.IntKind.i64 0, Go.Value.string { data := #[] }, Go.Value.slice Option.none 0 0]) := (zeroV_of Try.type78).trans rfl
theorem sz79 : sizeT Try.prog 79 = 1 := (sizeT_of Try.type79).trans rfl
theorem by79 : bytesT Try.prog 79 = 8 := (bytesT_of Try.type79).trans rfl
theorem kn79 : known Try.prog 79 = true := known_of Try.type79 Try.underlying79
theorem ag79 : isAggT Try.prog 79 = false := by simp only [isAggT, Try.underlying79]
theorem ze79 : zeroV Try.prog 79 = Option.some Go.Value.nilFunc := (zeroV_of Try.type79).trans rfl
theorem sz80 : sizeT Try.prog 80 = 1 := (sizeT_of Try.type80).trans rfl
theorem by80 : bytesT Try.prog 80 = 8 := (bytesT_of Try.type80).trans rfl
theorem kn80 : known Try.prog 80 = true := known_of Try.type80 Try.underlying80
theorem ag80 : isAggT Try.prog 80 = false := by simp only [isAggT, Try.underlying80]
theorem ze80 : zeroV Try.prog 80 = Option.some Go.Value.nilFunc := (zeroV_of Try.type80).trans rfl
theorem sz81 : sizeT Try.prog 81 = 1 := (sizeT_of Try.type81).trans rfl
theorem by81 : bytesT Try.prog 81 = 8 := (bytesT_of Try.type81).trans rfl
theorem kn81 : known Try.prog 81 = true := known_of Try.type81 Try.underlying81
theorem ag81 : isAggT Try.prog 81 = false := by simp only [isAggT, Try.underlying81]
theorem ze81 : zeroV Try.prog 81 = Option.some Go.Value.nilFunc := (zeroV_of Try.type81).trans rfl
theorem sz82 : sizeT Try.prog 82 = 1 := (sizeT_of Try.type82).trans rfl
theorem by82 : bytesT Try.prog 82 = 0 := (bytesT_of Try.type82).trans rfl
theorem kn82 : known Try.prog 82 = true := known_of Try.type82 Try.underlying82
theorem ag82 : isAggT Try.prog 82 = false := by simp only [isAggT, Try.underlying82]
theorem ze82 : zeroV Try.prog 82 = Option.some (Go.Value.tuple #[Go.Value.string { data := #[] }, Go.Value.slice Option.none 0 0, Go.Value.bool Bool.false]) := (zeroV_of Try.type82).trans rfl
theorem sz83 : sizeT Try.prog 83 = 1 := (sizeT_of Try.type83).trans rfl
theorem by83 : bytesT Try.prog 83 = 8 := (bytesT_of Try.type83).trans rfl
theorem kn83 : known Try.prog 83 = true := known_of Try.type83 Try.underlying83
theorem ag83 : isAggT Try.prog 83 = false := by simp only [isAggT, Try.underlying83]
theorem ze83 : zeroV Try.prog 83 = Option.some Go.Value.nilFunc := (zeroV_of Try.type83).trans rfl
theorem sz84 : sizeT Try.prog 84 = 1 := (sizeT_of Try.type84).trans rfl
theorem by84 : bytesT Try.prog 84 = 8 := (bytesT_of Try.type84).trans rfl
theorem kn84 : known Try.prog 84 = true := known_of Try.type84 Try.underlying84
theorem ag84 : isAggT Try.prog 84 = false := by simp only [isAggT, Try.underlying84]
theorem ze84 : zeroV Try.prog 84 = Option.some (Go.Value.pointer Option.none) := (zeroV_of Try.type84).trans rfl
theorem sz85 : sizeT Try.prog 85 = 1 := (sizeT_of Try.type85).trans rfl
theorem by85 : bytesT Try.prog 85 = 24 := (bytesT_of Try.type85).trans rfl
theorem kn85 : known Try.prog 85 = true := known_of Try.type85 Try.underlying85
theorem ag85 : isAggT Try.prog 85 = false := by simp only [isAggT, Try.underlying85]
theorem ze85 : zeroV Try.prog 85 = Option.some (Go.Value.slice Option.none 0 0) := (zeroV_of Try.type85).trans rfl
theorem sz86 : sizeT Try.prog 86 = 1 := (sizeT_of Try.type86).trans rfl
theorem by86 : bytesT Try.prog 86 = 8 := (bytesT_of Try.type86).trans rfl
theorem kn86 : known Try.prog 86 = true := known_of Try.type86 Try.underlying86
theorem ag86 : isAggT Try.prog 86 = false := by simp only [isAggT, Try.underlying86]
theorem ze86 : zeroV Try.prog 86 = Option.some (Go.Value.int Go.IntKind.u64 0) := (zeroV_of Try.type86).trans rfl
theorem sz87 : sizeT Try.prog 87 = 1 := (sizeT_of Try.type87).trans rfl
theorem by87 : bytesT Try.prog 87 = 8 := (bytesT_of Try.type87).trans rfl
theorem kn87 : known Try.prog 87 = true := known_of Try.type87 Try.underlying87
theorem ag87 : isAggT Try.prog 87 = false := by simp only [isAggT, Try.underlying87]
theorem ze87 : zeroV Try.prog 87 = Option.some Go.Value.nilFunc := (zeroV_of Try.type87).trans rfl
theorem sz88 : sizeT Try.prog 88 = 1 := (sizeT_of Try.type88).trans rfl
theorem by88 : bytesT Try.prog 88 = 0 := (bytesT_of Try.type88).trans rfl
theorem kn88 : known Try.prog 88 = true := known_of Try.type88 Try.underlying88
theorem ag88 : isAggT Try.prog 88 = false := by simp only [isAggT, Try.underlying88]
theorem ze88 : zeroV Try.prog 88 = Option.some (Go.Value.tuple #[Go.Value.string { data := #[] }, Go.Value.string { data := #[] }, Go.Value.bool Bool.false]) := (zeroV_of Try.type88).trans rfl
theorem sz89 : sizeT Try.prog 89 = 1 := (sizeT_of Try.type89).trans rfl
theorem by89 : bytesT Try.prog 89 = 8 := (bytesT_of Try.type89).trans rfl
theorem kn89 : known Try.prog 89 = true := known_of Try.type89 Try.underlying89
theorem ag89 : isAggT Try.prog 89 = false := by simp only [isAggT, Try.underlying89]
theorem ze89 : zeroV Try.prog 89 = Option.some Go.Value.nilFunc := (zeroV_of Try.type89).trans rfl
theorem sz90 : sizeT Try.prog 90 = 1 := (sizeT_of Try.type90).trans rfl
theorem by90 : bytesT Try.prog 90 = 8 := (bytesT_of Try.type90).trans rfl
theorem kn90 : known Try.prog 90 = true := known_of Try.type90 Try.underlying90
theorem ag90 : isAggT Try.prog 90 = false := by simp only [isAggT, Try.underlying90]
theorem ze90 : zeroV Try.prog 90 = Option.some Go.Value.nilFunc := (zeroV_of Try.type90).trans rfl
theorem sz91 : sizeT Try.prog 91 = 1 := (sizeT_of Try.type91).trans rfl
theorem by91 : bytesT Try.prog 91 = 8 := (bytesT_of Try.type91).trans rfl
theorem kn91 : known Try.prog 91 = true := known_of Try.type91 Try.underlying91
theorem ag91 : isAggT Try.prog 91 = false := by simp only [isAggT, Try.underlying91]
theorem ze91 : zeroV Try.prog 91 = Option.some Go.Value.nilFunc := (zeroV_of Try.type91).trans rfl
theorem sz92 : sizeT Try.prog 92 = 1 := (sizeT_of Try.type92).trans rfl
theorem by92 : bytesT Try.prog 92 = 8 := (bytesT_of Try.type92).trans rfl
theorem kn92 : known Try.prog 92 = true := known_of Try.type92 Try.underlying92
theorem ag92 : isAggT Try.prog 92 = false := by simp only [isAggT, Try.underlying92]
theorem ze92 : zeroV Try.prog 92 = Option.some Go.Value.nilFunc := (zeroV_of Try.type92).trans rfl
theorem sz93 : sizeT Try.prog 93 = 1 := (sizeT_of Try.type93).trans rfl
theorem by93 : bytesT Try.prog 93 = 8 := (bytesT_of Try.type93).trans rfl
theorem kn93 : known Try.prog 93 = true := known_of Try.type93 Try.underlying93
theorem ag93 : isAggT Try.prog 93 = false := by simp only [isAggT, Try.underlying93]
theorem ze93 : zeroV Try.prog 93 = Option.some Go.Value.nilFunc := (zeroV_of Try.type93).trans rfl
theorem sz94 : sizeT Try.prog 94 = 1 := (sizeT_of Try.type94).trans rfl
theorem by94 : bytesT Try.prog 94 = 8 := (bytesT_of Try.type94).trans rfl
theorem kn94 : known Try.prog 94 = true := known_of Try.type94 Try.underlying94
theorem ag94 : isAggT Try.prog 94 = false := by simp only [isAggT, Try.underlying94]
theorem ze94 : zeroV Try.prog 94 = Option.some Go.Value.nilFunc := (zeroV_of Try.type94).trans rfl
theorem sz95 : sizeT Try.prog 95 = 1 := (sizeT_of Try.type95).trans rfl
theorem by95 : bytesT Try.prog 95 = 8 := (bytesT_of Try.type95).trans rfl
theorem kn95 : known Try.prog 95 = true := known_of Try.type95 Try.underlying95
theorem ag95 : isAggT Try.prog 95 = false := by simp only [isAggT, Try.underlying95]
theorem ze95 : zeroV Try.prog 95 = Option.some (Go.Value.int Go.IntKind.i64 0) := (zeroV_of Try.type95).trans rfl
theorem sz96 : sizeT Try.prog 96 = 1 := (sizeT_of Try.type96).trans rfl
theorem by96 : bytesT Try.prog 96 = 0 := (bytesT_of Try.type96).trans rfl
theorem kn96 : known Try.prog 96 = true := known_of Try.type96 Try.underlying96
theorem ag96 : isAggT Try.prog 96 = false := by simp only [isAggT, Try.underlying96]
theorem ze96 : zeroV Try.prog 96 = Option.some (Go.Value.tuple #[Go.Value.int Go.IntKind.i64 0, Go.Value.int Go.IntKind.i64 0]) := (zeroV_of Try.type96).trans rfl
theorem sz97 : sizeT Try.prog 97 = 1 := (sizeT_of Try.type97).trans rfl
theorem by97 : bytesT Try.prog 97 = 8 := (bytesT_of Try.type97).trans rfl
theorem kn97 : known Try.prog 97 = true := known_of Try.type97 Try.underlying97
theorem ag97 : isAggT Try.prog 97 = false := by simp only [isAggT, Try.underlying97]
theorem ze97 : zeroV Try.prog 97 = Option.some Go.Value.nilFunc := (zeroV_of Try.type97).trans rfl
theorem sz98 : sizeT Try.prog 98 = 1 := (sizeT_of Try.type98).trans rfl
theorem by98 : bytesT Try.prog 98 = 8 := (bytesT_of Try.type98).trans rfl
theorem kn98 : known Try.prog 98 = true := known_of Try.type98 Try.underlying98
theorem ag98 : isAggT Try.prog 98 = false := by simp only [isAggT, Try.underlying98]
theorem ze98 : zeroV Try.prog 98 = Option.some Go.Value.nilFunc := (zeroV_of Try.type98).trans rfl
theorem sz99 : sizeT Try.prog 99 = 1 := (sizeT_of Try.type99).trans rfl
theorem by99 : bytesT Try.prog 99 = 8 := (bytesT_of Try.type99).trans rfl
theorem kn99 : known Try.prog 99 = true := known_of Try.type99 Try.underlying99
theorem ag99 : isAggT Try.prog 99 = false := by simp only [isAggT, Try.underlying99]
theorem ze99 : zeroV Try.prog 99 = Option.some Go.Value.nilFunc := (zeroV_of Try.type99).trans rfl
theorem sz100 : sizeT Try.prog 100 = 1 := (sizeT_of Try.type100).trans rfl
theorem by100 : bytesT Try.prog 100 = 8 := (bytesT_of Try.type100).trans rfl
theorem kn100 : known Try.prog 100 = true := known_of Try.type100 Try.underlying100
theorem ag100 : isAggT Try.prog 100 = false := by simp only [isAggT, Try.underlying100]
theorem ze100 : zeroV Try.prog 100 = Option.some Go.Value.nilFunc := (zeroV_of Try.type100).trans rfl
theorem sz101 : sizeT Try.prog 101 = 1 := (sizeT_of Try.type101).trans rfl
theorem by101 : bytesT Try.prog 101 = 8 := (bytesT_of Try.type101).trans rfl
theorem kn101 : known Try.prog 101 = true := known_of Try.type101 Try.underlying101
theorem ag101 : isAggT Try.prog 101 = false := by simp only [isAggT, Try.underlying101]
theorem ze101 : zeroV Try.prog 101 = Option.some Go.Value.nilFunc := (zeroV_of Try.type101).trans rfl
theorem sz102 : sizeT Try.prog 102 = 1 := (sizeT_of Try.type102).trans rfl
theorem by102 : bytesT Try.prog 102 = 4 := (bytesT_of Try.type102).trans rfl
theorem kn102 : known Try.prog 102 = true := known_of Try.type102 Try.underlying102
theorem ag102 : isAggT Try.prog 102 = false := by simp only [isAggT, Try.underlying102]
theorem ze102 : zeroV Try.prog 102 = Option.some (Go.Value.int Go.IntKind.u32 0) := (zeroV_of Try.type102).trans rfl
theorem sz103 : sizeT Try.prog 103 = 1 := (sizeT_of Try.type103).trans rfl
theorem by103 : bytesT Try.prog 103 = 8 := (bytesT_of Try.type103).trans rfl
theorem kn103 : known Try.prog 103 = true := known_of Try.type103 Try.underlying103
theorem ag103 : isAggT Try.prog 103 = false := by simp only [isAggT, Try.underlying103]
theorem ze103 : zeroV Try.prog 103 = Option.some Go.Value.nilFunc := (zeroV_of Try.type103).trans rfl
theorem sz104 : sizeT Try.prog 104 = 1 := (sizeT_of Try.type104).trans rfl
theorem by104 : bytesT Try.prog 104 = 8 := (bytesT_of Try.type104).trans rfl
theorem kn104 : known Try.prog 104 = true := known_of Try.type104 Try.underlying104
theorem ag104 : isAggT Try.prog 104 = false := by simp only [isAggT, Try.underlying104]
theorem ze104 : zeroV Try.prog 104 = Option.some (Go.Value.int Go.IntKind.u64 0) := (zeroV_of Try.type104).trans rfl
theorem sz105 : sizeT Try.prog 105 = 1 := (sizeT_of Try.type105).trans rfl
theorem by105 : bytesT Try.prog 105 = 24 := (bytesT_of Try.type105).trans rfl
theorem kn105 : known Try.prog 105 = true := known_of Try.type105 Try.underlying105
theorem ag105 : isAggT Try.prog 105 = false := by simp only [isAggT, Try.underlying105]
theorem ze105 : zeroV Try.prog 105 = Option.some (Go.Value.slice Option.none 0 0) := (zeroV_of Try.type105).trans rfl
theorem sz106 : sizeT Try.prog 106 = 1 := (sizeT_of Try.type106).trans rfl
theorem by106 : bytesT Try.prog 106 = 24 := (bytesT_of Try.type106).trans rfl
theorem kn106 : known Try.prog 106 = true := known_of Try.type106 Try.underlying106
theorem ag106 : isAggT Try.prog 106 = false := by simp only [isAggT, Try.underlying106]
theorem ze106 : zeroV Try.prog 106 = Option.some (Go.Value.slice Option.none 0 0) := (zeroV_of Try.type106).trans rfl
theorem sz107 : sizeT Try.prog 107 = 1 := (sizeT_of Try.type107).trans rfl
theorem by107 : bytesT Try.prog 107 = 8 := (bytesT_of Try.type107).trans rfl
theorem kn107 : known Try.prog 107 = true := known_of Try.type107 Try.underlying107
theorem ag107 : isAggT Try.prog 107 = false := by simp only [isAggT, Try.underlying107]
theorem ze107 : zeroV Try.prog 107 = Option.some Go.Value.nilFunc := (zeroV_of Try.type107).trans rfl
theorem sz108 : sizeT Try.prog 108 = 1 := (sizeT_of Try.type108).trans rfl
theorem by108 : bytesT Try.prog 108 = 8 := (bytesT_of Try.type108).trans rfl
theorem kn108 : known Try.prog 108 = true := known_of Try.type108 Try.underlying108
theorem ag108 : isAggT Try.prog 108 = false := by simp only [isAggT, Try.underlying108]
theorem ze108 : zeroV Try.prog 108 = Option.some Go.Value.nilFunc := (zeroV_of Try.type108).trans rfl
theorem sz109 : sizeT Try.prog 109 = 1 := (sizeT_of Try.type109).trans rfl
theorem by109 : bytesT Try.prog 109 = 8 := (bytesT_of Try.type109).trans rfl
theorem kn109 : known Try.prog 109 = true := known_of Try.type109 Try.underlying109
theorem ag109 : isAggT Try.prog 109 = false := by simp only [isAggT, Try.underlying109]
theorem ze109 : zeroV Try.prog 109 = Option.some Go.Value.nilFunc := (zeroV_of Try.type109).trans rfl
theorem sz110 : sizeT Try.prog 110 = 1 := (sizeT_of Try.type110).trans rfl
theorem by110 : bytesT Try.prog 110 = 8 := (bytesT_of Try.type110).trans rfl
theorem kn110 : known Try.prog 110 = true := known_of Try.type110 Try.underlying110
theorem ag110 : isAggT Try.prog 110 = false := by simp only [isAggT, Try.underlying110]
theorem ze110 : zeroV Try.prog 110 = Option.some (Go.Value.int Go.IntKind.u64 0) := (zeroV_of Try.type110).trans rfl
theorem sz111 : sizeT Try.prog 111 = 1 := (sizeT_of Try.type111).trans rfl
theorem by111 : bytesT Try.prog 111 = 8 := (bytesT_of Try.type111).trans rfl
theorem kn111 : known Try.prog 111 = true := known_of Try.type111 Try.underlying111
theorem ag111 : isAggT Try.prog 111 = false := by simp only [isAggT, Try.underlying111]
theorem ze111 : zeroV Try.prog 111 = Option.some Go.Value.nilFunc := (zeroV_of Try.type111).trans rfl
theorem sz112 : sizeT Try.prog 112 = 1 := (sizeT_of Try.type112).trans rfl
theorem by112 : bytesT Try.prog 112 = 8 := (bytesT_of Try.type112).trans rfl
theorem kn112 : known Try.prog 112 = true := known_of Try.type112 Try.underlying112
theorem ag112 : isAggT Try.prog 112 = false := by simp only [isAggT, Try.underlying112]
theorem ze112 : zeroV Try.prog 112 = Option.some Go.Value.nilFunc := (zeroV_of Try.type112).trans rfl
theorem sz113 : sizeT Try.prog 113 = 1 := (sizeT_of Try.type113).trans rfl
theorem by113 : bytesT Try.prog 113 = 8 := (bytesT_of Try.type113).trans rfl
theorem kn113 : known Try.prog 113 = true := known_of Try.type113 Try.underlying113
theorem ag113 : isAggT Try.prog 113 = false := by simp only [isAggT, Try.underlying113]
theorem ze113 : zeroV Try.prog 113 = Option.some Go.Value.nilFunc := (zeroV_of Try.type113).trans rfl
theorem sz114 : sizeT Try.prog 114 = 1 := (sizeT_of Try.type114).trans rfl
theorem by114 : bytesT Try.prog 114 = 8 := (bytesT_of Try.type114).trans rfl
theorem kn114 : known Try.prog 114 = true := known_of Try.type114 Try.underlying114
theorem ag114 : isAggT Try.prog 114 = false := by simp only [isAggT, Try.underlying114]
theorem ze114 : zeroV Try.prog 114 = Option.some Go.Value.nilFunc := (zeroV_of Try.type114).trans rfl
theorem sz115 : sizeT Try.prog 115 = 1 := (sizeT_of Try.type115).trans rfl
theorem by115 : bytesT Try.prog 115 = 8 := (bytesT_of Try.type115).trans rfl
theorem kn115 : known Try.prog 115 = true := known_of Try.type115 Try.underlying115
theorem ag115 : isAggT Try.prog 115 = false := by simp only [isAggT, Try.underlying115]
theorem ze115 : zeroV Try.prog 115 = Option.some (Go.Value.pointer Option.none) := (zeroV_of Try.type115).trans rfl
theorem sz116 : sizeT Try.prog 116 = 1 := (sizeT_of Try.type116).trans rfl
theorem by116 : bytesT Try.prog 116 = 0 := (bytesT_of Try.type116).trans rfl
theorem kn116 : known Try.prog 116 = true := known_of Try.type116 Try.underlying116
theorem ag116 : isAggT Try.prog 116 = false := by simp only [isAggT, Try.underlying116]
theorem ze116 : zeroV Try.prog 116 = Option.some (Go.Value.tuple #[Go.Value.int Go.IntKind.i64 0, Go.Value.int Go.IntKind.i64 0]) := (zeroV_of Try.type116).trans rfl
theorem sz117 : sizeT Try.prog 117 = 1 := (sizeT_of Try.type117).trans rfl
theorem by117 : bytesT Try.prog 117 = 8 := (bytesT_of Try.type117).trans rfl
theorem kn117 : known Try.prog 117 = true := known_of Try.type117 Try.underlying117
theorem ag117 : isAggT Try.prog 117 = false := by simp only [isAggT, Try.underlying117]
theorem ze117 : zeroV Try.prog 117 = Option.some Go.Value.nilFunc := (zeroV_of Try.type117).trans rfl
theorem sz118 : sizeT Try.prog 118 = 1 := (sizeT_of Try.type118).trans rfl
theorem by118 : bytesT Try.prog 118 = 8 := (bytesT_of Try.type118).trans rfl
theorem kn118 : known Try.prog 118 = true := known_of Try.type118 Try.underlying118
theorem ag118 : isAggT Try.prog 118 = false := by simp only [isAggT, Try.underlying118]
theorem ze118 : zeroV Try.prog 118 = Option.some Go.Value.nilFunc := (zeroV_of Try.type118).trans rfl
theorem sz119 : sizeT Try.prog 119 = 4 := (sizeT_of Try.type119).trans rfl
theorem by119 : bytesT Try.prog 119 = 40 := (bytesT_of Try.type119).trans rfl
theorem kn119 : known Try.prog 119 = true := known_of Try.type119 Try.underlying119
theorem ag119 : isAggT Try.prog 119 = true := by simp only [isAggT, Try.underlying119]
theorem ze119 : zeroV Try.prog 119 = Option.some (Go.Value.agg #[Go.Value.pointer Option.none, Go.Value.pointer Option.none, Go.Value.pointer Option.none, Go.Value.string { data := #[] }]) := (zeroV_of Try.type119).trans rfl
theorem sz120 : sizeT Try.prog 120 = 4 := (sizeT_of Try.type120).trans rfl
theorem by120 : bytesT Try.prog 120 = 40 := (bytesT_of Try.type120).trans rfl
theorem kn120 : known Try.prog 120 = true := known_of Try.type120 Try.underlying120
theorem ag120 : isAggT Try.prog 120 = true := by simp only [isAggT, Try.underlying120]
theorem ze120 : zeroV Try.prog 120 = Option.some (Go.Value.agg #[Go.Value.pointer Option.none, Go.Value.pointer Option.none, Go.Value.pointer Option.none, Go.Value.string { data := #[] }]) := (zeroV_of Try.type120).trans rfl
theorem sz121 : sizeT Try.prog 121 = 0 := (sizeT_of Try.type121).trans rfl
theorem by121 : bytesT Try.prog 121 = 0 := (bytesT_of Try.type121).trans rfl
theorem kn121 : known Try.prog 121 = true := known_of Try.type121 Try.underlying121
theorem ag121 : isAggT Try.prog 121 = true := by simp only [isAggT, Try.underlying121]
theorem ze121 : zeroV Try.prog 121 = Option.some (Go.Value.agg #[]) := (zeroV_of Try.type121).trans rfl
theorem sz122 : sizeT Try.prog 122 = 0 := (sizeT_of Try.type122).trans rfl
theorem by122 : bytesT Try.prog 122 = 0 := (bytesT_of Try.type122).trans rfl
theorem kn122 : known Try.prog 122 = true := known_of Try.type122 Try.underlying122
theorem ag122 : isAggT Try.prog 122 = true := by simp only [isAggT, Try.underlying122]
theorem ze122 : zeroV Try.prog 122 = Option.some (Go.Value.agg #[]) := (zeroV_of Try.type122).trans rfl
theorem sz123 : sizeT Try.prog 123 = 0 := (sizeT_of Try.type123).trans rfl
theorem by123 : bytesT Try.prog 123 = 0 := (bytesT_of Try.type123).trans rfl
theorem kn123 : known Try.prog 123 = true := known_of Try.type123 Try.underlying123
theorem ag123 : isAggT Try.prog 123 = true := by simp only [isAggT, Try.underlying123]
theorem ze123 : zeroV Try.prog 123 = Option.some (Go.Value.agg #[]) := (zeroV_of Try.type123).trans rfl
theorem sz124 : sizeT Try.prog 124 = 1 := (sizeT_of Try.type124).trans rfl
theorem by124 : bytesT Try.prog 124 = 8 := (bytesT_of Try.type124).trans rfl
theorem kn124 : known Try.prog 124 = true := known_of Try.type124 Try.underlying124
theorem ag124 : isAggT Try.prog 124 = false := by simp only [isAggT, Try.underlying124]
theorem ze124 : zeroV Try.prog 124 = Option.some Go.Value.nilFunc := (zeroV_of Try.type124).trans rfl
theorem sz125 : sizeT Try.prog 125 = 1 := (sizeT_of Try.type125).trans rfl
theorem by125 : bytesT Try.prog 125 = 1 := (bytesT_of Try.type125).trans rfl
theorem kn125 : known Try.prog 125 = true := known_of Try.type125 Try.underlying125
theorem ag125 : isAggT Try.prog 125 = false := by simp only [isAggT, Try.underlying125]
theorem ze125 : zeroV Try.prog 125 = Option.some (Go.Value.int Go.IntKind.u8 0) := (zeroV_of Try.type125).trans rfl
theorem sz126 : sizeT Try.prog 126 = 1 := (sizeT_of Try.type126).trans rfl
theorem by126 : bytesT Try.prog 126 = 1 := (bytesT_of Try.type126).trans rfl
theorem kn126 : known Try.prog 126 = true := known_of Try.type126 Try.underlying126
theorem ag126 : isAggT Try.prog 126 = false := by simp only [isAggT, Try.underlying126]
theorem ze126 : zeroV Try.prog 126 = Option.some (Go.Value.int Go.IntKind.u8 0) := (zeroV_of Try.type126).trans rfl
theorem sz127 : sizeT Try.prog 127 = 1 := (sizeT_of Try.type127).trans rfl
theorem by127 : bytesT Try.prog 127 = 8 := (bytesT_of Try.type127).trans rfl
theorem kn127 : known Try.prog 127 = true := known_of Try.type127 Try.underlying127
theorem ag127 : isAggT Try.prog 127 = false := by simp only [isAggT, Try.underlying127]
theorem ze127 : zeroV Try.prog 127 = Option.some Go.Value.nilFunc := (zeroV_of Try.type127).trans rfl
theorem sz128 : sizeT Try.prog 128 = 1 := (sizeT_of Try.type128).trans rfl
theorem by128 : bytesT Try.prog 128 = 8 := (bytesT_of Try.type128).trans rfl
theorem kn128 : known Try.prog 128 = true := known_of Try.type128 Try.underlying128
theorem ag128 : isAggT Try.prog 128 = false := by simp only [isAggT, Try.underlying128]
theorem ze128 : zeroV Try.prog 128 = Option.some (Go.Value.pointer Option.none) := (zeroV_of Try.type128).trans rfl
theorem sz129 : sizeT Try.prog 129 = 1 := (sizeT_of Try.type129).trans rfl
theorem by129 : bytesT Try.prog 129 = 4 := (bytesT_of Try.type129).trans rfl
theorem kn129 : known Try.prog 129 = true := known_of Try.type129 Try.underlying129
theorem ag129 : isAggT Try.prog 129 = false := by simp only [isAggT, Try.underlying129]
theorem ze129 : zeroV Try.prog 129 = Option.some (Go.Value.int Go.IntKind.i32 0) := (zeroV_of Try.type129).trans rfl
theorem sz130 : sizeT Try.prog 130 = 1 := (sizeT_of Try.type130).trans rfl
theorem by130 : bytesT Try.prog 130 = 4 := (bytesT_of Try.type130).trans rfl
theorem kn130 : known Try.prog 130 = true := known_of Try.type130 Try.underlying130
theorem ag130 : isAggT Try.prog 130 = false := by simp only [isAggT, Try.underlying130]
theorem ze130 : zeroV Try.prog 130 = Option.some (Go.Value.int Go.IntKind.i32 0) := (zeroV_of Try.type130).trans rfl
theorem sz131 : sizeT Try.prog 131 = 11 := (sizeT_of Try.type131).trans rfl
theorem by131 : bytesT Try.prog 131 = 48 := (bytesT_of Try.type131).trans rfl
theorem kn131 : known Try.prog 131 = true := known_of Try.type131 Try.underlying131
theorem ag131 : isAggT Try.prog 131 = true := by simp only [isAggT, Try.underlying131]
theorem ze131 : zeroV Try.prog 131 = Option.some (Go.Value.agg #[Go.Value.int Go.IntKind.u64 0, Go.Value.int Go.IntKind.u64 0, Go.Value.int Go.IntKind.u32 0, Go.Value.int Go.IntKind.u8 0, Go.Value.int Go.IntKind.u8 0, Go.Value.int Go.IntKind.u8 0, Go.Value.int Go.IntKind.u8 0, Go.Value.nilFunc, Go.Value.pointer Option.none, Go.Value.int Go.IntKind.i32 0, Go.Value.int Go.IntKind.i32 0]) := (zeroV_of Try.type131).trans rfl
theorem sz132 : sizeT Try.prog 132 = 11 := (sizeT_of Try.type132).trans rfl
theorem by132 : bytesT Try.prog 132 = 48 := (bytesT_of Try.type132).trans rfl
theorem kn132 : known Try.prog 132 = true := known_of Try.type132 Try.underlying132
theorem ag132 : isAggT Try.prog 132 = true := by simp only [isAggT, Try.underlying132]
theorem ze132 : zeroV Try.prog 132 = Option.some (Go.Value.agg #[Go.Value.int Go.IntKind.u64 0, Go.Value.int Go.IntKind.u64 0, Go.Value.int Go.IntKind.u32 0, Go.Value.int Go.IntKind.u8 0, Go.Value.int Go.IntKind.u8 0, Go.Value.int Go.IntKind.u8 0, Go.Value.int Go.IntKind.u8 0, Go.Value.nilFunc, Go.Value.pointer Option.none, Go.Value.int Go.IntKind.i32 0, Go.Value.int Go.IntKind.i32 0]) := (zeroV_of Try.type132).trans rfl
theorem sz133 : sizeT Try.prog 133 = 1 := (sizeT_of Try.type133).trans rfl
theorem by133 : bytesT Try.prog 133 = 8 := (bytesT_of Try.type133).trans rfl
theorem kn133 : known Try.prog 133 = true := known_of Try.type133 Try.underlying133
theorem ag133 : isAggT Try.prog 133 = false := by simp only [isAggT, Try.underlying133]
theorem ze133 : zeroV Try.prog 133 = Option.some (Go.Value.pointer Option.none) := (zeroV_of Try.type133).trans rfl

attribute [go_sem] sz0 by0 kn0 ag0 ze0 Try.underlying0
attribute [go_sem] sz1 by1 kn1 ag1 ze1 Try.underlying1
attribute [go_sem] sz2 by2 kn2 ag2 ze2 Try.underlying2
attribute [go_sem] sz3 by3 kn3 ag3 ze3 Try.underlying3
attribute [go_sem] sz4 by4 kn4 ag4 ze4 Try.underlying4
attribute [go_sem] sz5 by5 kn5 ag5 ze5 Try.underlying5
attribute [go_sem] sz6 by6 kn6 ag6 ze6 Try.underlying6
attribute [go_sem] sz7 by7 kn7 ag7 ze7 Try.underlying7
attribute [go_sem] sz8 by8 kn8 ag8 ze8 Try.underlying8
attribute [go_sem] sz9 by9 kn9 ag9 ze9 Try.underlying9
attribute [go_sem] sz10 by10 kn10 ag10 ze10 Try.underlying10
attribute [go_sem] sz11 by11 kn11 ag11 ze11 Try.underlying11
attribute [go_sem] sz12 by12 kn12 ag12 ze12 Try.underlying12
attribute [go_sem] sz13 by13 kn13 ag13 ze13 Try.underlying13
attribute [go_sem] sz14 by14 kn14 ag14 ze14 Try.underlying14
attribute [go_sem] sz15 by15 kn15 ag15 ze15 Try.underlying15
attribute [go_sem] sz16 by16 kn16 ag16 ze16 Try.underlying16
attribute [go_sem] sz17 by17 kn17 ag17 ze17 Try.underlying17
attribute [go_sem] sz18 by18 kn18 ag18 ze18 Try.underlying18
attribute [go_sem] sz19 by19 kn19 ag19 ze19 Try.underlying19
attribute [go_sem] sz20 by20 kn20 ag20 ze20 Try.underlying20
attribute [go_sem] sz21 by21 kn21 ag21 ze21 Try.underlying21
attribute [go_sem] sz22 by22 kn22 ag22 ze22 Try.underlying22
attribute [go_sem] sz23 by23 kn23 ag23 ze23 Try.underlying23
attribute [go_sem] sz24 by24 kn24 ag24 ze24 Try.underlying24
attribute [go_sem] sz25 by25 kn25 ag25 ze25 Try.underlying25
attribute [go_sem] sz26 by26 kn26 ag26 ze26 Try.underlying26
attribute [go_sem] sz27 by27 kn27 ag27 ze27 Try.underlying27
attribute [go_sem] sz28 by28 kn28 ag28 ze28 Try.underlying28
attribute [go_sem] sz29 by29 kn29 ag29 ze29 Try.underlying29
attribute [go_sem] sz30 by30 kn30 ag30 ze30 Try.underlying30
attribute [go_sem] sz31 by31 kn31 ag31 ze31 Try.underlying31
attribute [go_sem] sz32 by32 kn32 ag32 ze32 Try.underlying32
attribute [go_sem] sz33 by33 kn33 ag33 ze33 Try.underlying33
attribute [go_sem] sz34 by34 kn34 ag34 ze34 Try.underlying34
attribute [go_sem] sz35 by35 kn35 ag35 ze35 Try.underlying35
attribute [go_sem] sz36 by36 kn36 ag36 ze36 Try.underlying36
attribute [go_sem] sz37 by37 kn37 ag37 ze37 Try.underlying37
attribute [go_sem] sz38 by38 kn38 ag38 ze38 Try.underlying38
attribute [go_sem] sz39 by39 kn39 ag39 ze39 Try.underlying39
attribute [go_sem] sz40 by40 kn40 ag40 ze40 Try.underlying40
attribute [go_sem] sz41 by41 kn41 ag41 ze41 Try.underlying41
attribute [go_sem] sz42 by42 kn42 ag42 ze42 Try.underlying42
attribute [go_sem] sz43 by43 kn43 ag43 ze43 Try.underlying43
attribute [go_sem] sz44 by44 kn44 ag44 ze44 Try.underlying44
attribute [go_sem] sz45 by45 kn45 ag45 ze45 Try.underlying45
attribute [go_sem] sz46 by46 kn46 ag46 ze46 Try.underlying46
attribute [go_sem] sz47 by47 kn47 ag47 ze47 Try.underlying47
attribute [go_sem] sz48 by48 kn48 ag48 ze48 Try.underlying48
attribute [go_sem] sz49 by49 kn49 ag49 ze49 Try.underlying49
attribute [go_sem] sz50 by50 kn50 ag50 ze50 Try.underlying50
attribute [go_sem] sz51 by51 kn51 ag51 ze51 Try.underlying51
attribute [go_sem] sz52 by52 kn52 ag52 ze52 Try.underlying52
attribute [go_sem] sz53 by53 kn53 ag53 ze53 Try.underlying53
attribute [go_sem] sz54 by54 kn54 ag54 ze54 Try.underlying54
attribute [go_sem] sz55 by55 kn55 ag55 ze55 Try.underlying55
attribute [go_sem] sz56 by56 kn56 ag56 ze56 Try.underlying56
attribute [go_sem] sz57 by57 kn57 ag57 ze57 Try.underlying57
attribute [go_sem] sz58 by58 kn58 ag58 ze58 Try.underlying58
attribute [go_sem] sz59 by59 kn59 ag59 ze59 Try.underlying59
attribute [go_sem] sz60 by60 kn60 ag60 ze60 Try.underlying60
attribute [go_sem] sz61 by61 kn61 ag61 ze61 Try.underlying61
attribute [go_sem] sz62 by62 kn62 ag62 ze62 Try.underlying62
attribute [go_sem] sz63 by63 kn63 ag63 ze63 Try.underlying63
attribute [go_sem] sz64 by64 kn64 ag64 ze64 Try.underlying64
attribute [go_sem] sz65 by65 kn65 ag65 ze65 Try.underlying65
attribute [go_sem] sz66 by66 kn66 ag66 ze66 Try.underlying66
attribute [go_sem] sz67 by67 kn67 ag67 ze67 Try.underlying67
attribute [go_sem] sz68 by68 kn68 ag68 ze68 Try.underlying68
attribute [go_sem] sz69 by69 kn69 ag69 ze69 Try.underlying69
attribute [go_sem] sz70 by70 kn70 ag70 ze70 Try.underlying70
attribute [go_sem] sz71 by71 kn71 ag71 ze71 Try.underlying71
attribute [go_sem] sz72 by72 kn72 ag72 ze72 Try.underlying72
attribute [go_sem] sz73 by73 kn73 ag73 ze73 Try.underlying73
attribute [go_sem] sz74 by74 kn74 ag74 ze74 Try.underlying74
attribute [go_sem] sz75 by75 kn75 ag75 ze75 Try.underlying75
attribute [go_sem] sz76 by76 kn76 ag76 ze76 Try.underlying76
attribute [go_sem] sz77 by77 kn77 ag77 ze77 Try.underlying77
attribute [go_sem] sz78 by78 kn78 ag78 ze78 Try.underlying78
attribute [go_sem] sz79 by79 kn79 ag79 ze79 Try.underlying79
attribute [go_sem] sz80 by80 kn80 ag80 ze80 Try.underlying80
attribute [go_sem] sz81 by81 kn81 ag81 ze81 Try.underlying81
attribute [go_sem] sz82 by82 kn82 ag82 ze82 Try.underlying82
attribute [go_sem] sz83 by83 kn83 ag83 ze83 Try.underlying83
attribute [go_sem] sz84 by84 kn84 ag84 ze84 Try.underlying84
attribute [go_sem] sz85 by85 kn85 ag85 ze85 Try.underlying85
attribute [go_sem] sz86 by86 kn86 ag86 ze86 Try.underlying86
attribute [go_sem] sz87 by87 kn87 ag87 ze87 Try.underlying87
attribute [go_sem] sz88 by88 kn88 ag88 ze88 Try.underlying88
attribute [go_sem] sz89 by89 kn89 ag89 ze89 Try.underlying89
attribute [go_sem] sz90 by90 kn90 ag90 ze90 Try.underlying90
attribute [go_sem] sz91 by91 kn91 ag91 ze91 Try.underlying91
attribute [go_sem] sz92 by92 kn92 ag92 ze92 Try.underlying92
attribute [go_sem] sz93 by93 kn93 ag93 ze93 Try.underlying93
attribute [go_sem] sz94 by94 kn94 ag94 ze94 Try.underlying94
attribute [go_sem] sz95 by95 kn95 ag95 ze95 Try.underlying95
attribute [go_sem] sz96 by96 kn96 ag96 ze96 Try.underlying96
attribute [go_sem] sz97 by97 kn97 ag97 ze97 Try.underlying97
attribute [go_sem] sz98 by98 kn98 ag98 ze98 Try.underlying98
attribute [go_sem] sz99 by99 kn99 ag99 ze99 Try.underlying99
attribute [go_sem] sz100 by100 kn100 ag100 ze100 Try.underlying100
attribute [go_sem] sz101 by101 kn101 ag101 ze101 Try.underlying101
attribute [go_sem] sz102 by102 kn102 ag102 ze102 Try.underlying102
attribute [go_sem] sz103 by103 kn103 ag103 ze103 Try.underlying103
attribute [go_sem] sz104 by104 kn104 ag104 ze104 Try.underlying104
attribute [go_sem] sz105 by105 kn105 ag105 ze105 Try.underlying105
attribute [go_sem] sz106 by106 kn106 ag106 ze106 Try.underlying106
attribute [go_sem] sz107 by107 kn107 ag107 ze107 Try.underlying107
attribute [go_sem] sz108 by108 kn108 ag108 ze108 Try.underlying108
attribute [go_sem] sz109 by109 kn109 ag109 ze109 Try.underlying109
attribute [go_sem] sz110 by110 kn110 ag110 ze110 Try.underlying110
attribute [go_sem] sz111 by111 kn111 ag111 ze111 Try.underlying111
attribute [go_sem] sz112 by112 kn112 ag112 ze112 Try.underlying112
attribute [go_sem] sz113 by113 kn113 ag113 ze113 Try.underlying113
attribute [go_sem] sz114 by114 kn114 ag114 ze114 Try.underlying114
attribute [go_sem] sz115 by115 kn115 ag115 ze115 Try.underlying115
attribute [go_sem] sz116 by116 kn116 ag116 ze116 Try.underlying116
attribute [go_sem] sz117 by117 kn117 ag117 ze117 Try.underlying117
attribute [go_sem] sz118 by118 kn118 ag118 ze118 Try.underlying118
attribute [go_sem] sz119 by119 kn119 ag119 ze119 Try.underlying119
attribute [go_sem] sz120 by120 kn120 ag120 ze120 Try.underlying120
attribute [go_sem] sz121 by121 kn121 ag121 ze121 Try.underlying121
attribute [go_sem] sz122 by122 kn122 ag122 ze122 Try.underlying122
attribute [go_sem] sz123 by123 kn123 ag123 ze123 Try.underlying123
attribute [go_sem] sz124 by124 kn124 ag124 ze124 Try.underlying124
attribute [go_sem] sz125 by125 kn125 ag125 ze125 Try.underlying125
attribute [go_sem] sz126 by126 kn126 ag126 ze126 Try.underlying126
attribute [go_sem] sz127 by127 kn127 ag127 ze127 Try.underlying127
attribute [go_sem] sz128 by128 kn128 ag128 ze128 Try.underlying128
attribute [go_sem] sz129 by129 kn129 ag129 ze129 Try.underlying129
attribute [go_sem] sz130 by130 kn130 ag130 ze130 Try.underlying130
attribute [go_sem] sz131 by131 kn131 ag131 ze131 Try.underlying131
attribute [go_sem] sz132 by132 kn132 ag132 ze132 Try.underlying132
attribute [go_sem] sz133 by133 kn133 ag133 ze133 Try.underlying133
attribute [go_sem] Try.results0
attribute [go_sem] Try.results1
attribute [go_sem] Try.results2
attribute [go_sem] Try.results3
attribute [go_sem] Try.results4
attribute [go_sem] Try.results5
attribute [go_sem] Try.results6
attribute [go_sem] Try.results7
attribute [go_sem] Try.results8
attribute [go_sem] Try.results9
attribute [go_sem] Try.results10
attribute [go_sem] Try.results11
attribute [go_sem] Try.results12
attribute [go_sem] Try.results13
attribute [go_sem] Try.results14
attribute [go_sem] Try.results15
attribute [go_sem] Try.results16
attribute [go_sem] Try.results17
attribute [go_sem] Try.results18
attribute [go_sem] Try.results19
attribute [go_sem] Try.results20
attribute [go_sem] Try.results21
attribute [go_sem] Try.results22
attribute [go_sem] Try.results23
attribute [go_sem] Try.results24
attribute [go_sem] Try.results25
attribute [go_sem] Try.results26
attribute [go_sem] Try.results27
attribute [go_sem] Try.results28
attribute [go_sem] Try.results29
attribute [go_sem] Try.results30
attribute [go_sem] Try.results31
attribute [go_sem] Try.results32
attribute [go_sem] Try.results33
attribute [go_sem] Try.results34
attribute [go_sem] Try.results35
attribute [go_sem] Try.results36
attribute [go_sem] Try.results37
attribute [go_sem] Try.results38
attribute [go_sem] Try.results39
attribute [go_sem] Try.results40
attribute [go_sem] Try.results41
attribute [go_sem] Try.results42
attribute [go_sem] Try.results43
attribute [go_sem] Try.results44
attribute [go_sem] Try.results45
attribute [go_sem] Try.results46
attribute [go_sem] Try.results47
attribute [go_sem] Try.results48
attribute [go_sem] Try.results49
attribute [go_sem] Try.results50
attribute [go_sem] Try.results51
attribute [go_sem] Try.results52
attribute [go_sem] Try.results53
attribute [go_sem] Try.results54
attribute [go_sem] Try.results55
attribute [go_sem] Try.results56
attribute [go_sem] Try.results57
attribute [go_sem] Try.results58
attribute [go_sem] Try.results59
attribute [go_sem] Try.results60
attribute [go_sem] Try.results61
attribute [go_sem] Try.results62
attribute [go_sem] Try.results63
attribute [go_sem] Try.results64
attribute [go_sem] Try.results65
attribute [go_sem] Try.results66
attribute [go_sem] Try.results67
attribute [go_sem] Try.results68
attribute [go_sem] Try.results69
attribute [go_sem] Try.results70
attribute [go_sem] Try.results71
attribute [go_sem] Try.results72
attribute [go_sem] Try.results73
attribute [go_sem] Try.results74
attribute [go_sem] Try.results75
attribute [go_sem] Try.results76
attribute [go_sem] Try.results77
attribute [go_sem] Try.results78
attribute [go_sem] Try.results79
attribute [go_sem] Try.results80
attribute [go_sem] Try.results81
attribute [go_sem] Try.results82
attribute [go_sem] Try.results83
attribute [go_sem] Try.results84
attribute [go_sem] Try.results85
attribute [go_sem] Try.results86
attribute [go_sem] Try.results87
attribute [go_sem] Try.results88
attribute [go_sem] Try.results89
attribute [go_sem] Try.results90
attribute [go_sem] Try.results91
attribute [go_sem] Try.results92
attribute [go_sem] Try.results93
attribute [go_sem] Try.results94
attribute [go_sem] Try.results95
attribute [go_sem] Try.results96
attribute [go_sem] Try.results97
attribute [go_sem] Try.results98
attribute [go_sem] Try.results99
attribute [go_sem] Try.results100
attribute [go_sem] Try.results101
attribute [go_sem] Try.results102
attribute [go_sem] Try.results103
attribute [go_sem] Try.results104
attribute [go_sem] Try.results105
attribute [go_sem] Try.results106
attribute [go_sem] Try.results107
attribute [go_sem] Try.results108
theorem mixed : Try.prog.follows .mixedOrders = true := by decide +kernel
end Go.Proofs.Ytoblmpfcjeammaa.V
