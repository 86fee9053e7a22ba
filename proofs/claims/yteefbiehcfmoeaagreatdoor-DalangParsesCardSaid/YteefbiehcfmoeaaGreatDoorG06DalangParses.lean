/-
  Texts of the proof, part 6: the machine, contracts of functions, plain laws. (Own work.)
-/
import Derived.Shelf.Strings.OnBuilder
import Derived.Shelf.LaysM
import Derived.Shelf.Strconv.Itoa3
import Derived.Shelf.Strings.Search1
import Derived.Shelf.Strings.Search2
import Derived.Shelf.Strings.Search3
import Derived.Shelf.Strings.Count
import Derived.Shelf.Strings.Prefix
import Derived.Test.YteefbiehcfmoeaaGreatDoorProg

namespace Go.Proofs
open Go.Shelf
def Tryz.lays156_ren : Go.Shelf.Ren := ⟨fun | 156 => 112 | 165 => 170 | 166 => 171 | 169 => 172 | 240 => 234 | 241 => 235 | 276 => 276 | 277 => 277 | n => n, fun | 31 => 93 | 9 => 9 | 3 => 3 | 4 => 4 | 0 => 0 | 20 => 20 | 72 => 287 | 76 => 291 | 70 => 285 | 37 => 243 | 75 => 290 | 127 => 355 | 164 => 399 | 5 => 5 | 80 => 293 | n => n, fun | n => n⟩
theorem Tryz.lays156 : Go.Proofs.Lays.n156 Tryz.prog Tryz.lays156_ren := {
 mixed := by kernel_rfl
 f156 := Tryz.func112.trans (congrArg some (by kernel_rfl))
 f165 := Tryz.func170.trans (congrArg some (by kernel_rfl))
 f166 := Tryz.func171.trans (congrArg some (by kernel_rfl))
 f169 := Tryz.func172.trans (congrArg some (by kernel_rfl))
 f240 := Tryz.func234.trans (congrArg some (by kernel_rfl))
 f241 := Tryz.func235.trans (congrArg some (by kernel_rfl))
 f276 := Tryz.func276.trans (congrArg some (by kernel_rfl))
 f277 := Tryz.func277.trans (congrArg some (by kernel_rfl))
 t0 := Tryz.underlying0
 a0 := Tryz.isAgg0
 z0 := Tryz.sizeOf0
 v0 := Tryz.zeroValue0
 t3 := Tryz.underlying3
 a3 := Tryz.isAgg3
 z3 := Tryz.sizeOf3
 v3 := Tryz.zeroValue3
 t4 := Tryz.underlying4
 a4 := Tryz.isAgg4
 z4 := Tryz.sizeOf4
 v4 := Tryz.zeroValue4
 t9 := Tryz.underlying9
 a9 := Tryz.isAgg9
 z9 := Tryz.sizeOf9
 v9 := Tryz.zeroValue9
 t20 := Tryz.underlying20
 a20 := Tryz.isAgg20
 z20 := Tryz.sizeOf20
 v20 := Tryz.zeroValue20
 t31 := Tryz.underlying93
 a31 := Tryz.isAgg93
 z31 := Tryz.sizeOf93
 v31 := Tryz.zeroValue93
 t37 := Tryz.underlying243
 a37 := Tryz.isAgg243
 z37 := Tryz.sizeOf243
 v37 := Tryz.zeroValue243
 t70 := Tryz.underlying285
 a70 := Tryz.isAgg285
 z70 := Tryz.sizeOf285
 v70 := Tryz.zeroValue285
 t72 := Tryz.underlying287
 a72 := Tryz.isAgg287
 z72 := Tryz.sizeOf287
 v72 := Tryz.zeroValue287
 t75 := Tryz.underlying290
 a75 := Tryz.isAgg290
 z75 := Tryz.sizeOf290
 v75 := Tryz.zeroValue290
 t76 := Tryz.underlying291
 a76 := Tryz.isAgg291
 z76 := Tryz.sizeOf291
 v76 := Tryz.zeroValue291
 t127 := Tryz.underlying355
 a127 := Tryz.isAgg355
 z127 := Tryz.sizeOf355
 v127 := Tryz.zeroValue355
 t164 := Tryz.underlying399
 a164 := Tryz.isAgg399
 z164 := Tryz.sizeOf399
 v164 := Tryz.zeroValue399 }
theorem Tryz.Builder_Extra_156 : Builder.Extra Tryz.prog Tryz.lays156_ren := {
 sizeBuilder := by kernel_rfl
 liesBuilder := by kernel_rfl
 t5 := Tryz.underlying5
 a5 := Tryz.isAgg5
 z5 := Tryz.sizeOf5
 v5 := Tryz.zeroValue5
 infoByte := by kernel_rfl
 cellsByte := by kernel_rfl
 sizeByte := by kernel_rfl
 neB5 := by decide }
open Go.RowKit in
theorem Tryz.strings_Join_none (a : Option Addr) (c : Nat) (sep : ByteArray) (w : World) :
  Calls Tryz.prog 112 #[.slice a 0 c, .string sep] w fun e w' => e = .returned (.string ⟨#[]⟩) ∧ w' = w := Any.strings_Join_none Tryz.lays156 Tryz.Builder_Extra_156 a c sep w
open Go.RowKit in
theorem Tryz.strings_Join (bk o c : Nat) (xs : List ByteArray) (sep : ByteArray) (w : World) (hcells : ∀ (j : Nat) x, xs[j]? = some x → w.cell? ⟨bk, o + j, none⟩ = some (.string x)) (hbk : bk < w.heap.size) (hN : xs.length ≤ 140737488355328) (hcap : xs.length ≤ c) (hlen : (Lib.join (xs.map (·.data.toList)) sep.data.toList).length ≤ 140737488355328) :
  Calls Tryz.prog 112 #[.slice (some ⟨bk, o, none⟩) xs.length c, .string sep] w fun e w' => e = .returned (.string ⟨(Lib.join (xs.map (·.data.toList)) sep.data.toList).toArray⟩) ∧ Below w.heap.size w w' := Any.strings_Join Tryz.lays156 Tryz.Builder_Extra_156 bk o c xs sep w hcells hbk hN hcap hlen
def Tryz.laysM246_ren : Go.Shelf.Ren := ⟨fun | 246 => 233 | 283 => 272 | 284 => 273 | 285 => 274 | 286 => 275 | 129 => 295 | 317 => 294 | 318 => 296 | 319 => 297 | 320 => 298 | 337 => 307 | 338 => 308 | n => n, fun | 2 => 2 | 3 => 3 | 9 => 9 | 4 => 4 | 171 => 393 | 0 => 0 | 53 => 394 | 37 => 243 | 5 => 5 | 173 => 397 | 212 => 412 | 51 => 413 | 20 => 20 | 213 => 414 | 46 => 415 | 232 => 425 | 233 => 426 | n => n, fun | 17 => 1 | 18 => 4 | 19 => 5 | n => n⟩
def Tryz.laysM243_ren : Go.Shelf.Ren := ⟨fun | 243 => 169 | 246 => 233 | 283 => 272 | 284 => 273 | 285 => 274 | 286 => 275 | 129 => 295 | 317 => 294 | 318 => 296 | 319 => 297 | 320 => 298 | 337 => 307 | 338 => 308 | n => n, fun | 3 => 3 | 9 => 9 | 2 => 2 | 4 => 4 | 171 => 393 | 0 => 0 | 53 => 394 | 37 => 243 | 5 => 5 | 173 => 397 | 212 => 412 | 51 => 413 | 20 => 20 | 213 => 414 | 46 => 415 | 232 => 425 | 233 => 426 | n => n, fun | 17 => 1 | 18 => 4 | 19 => 5 | n => n⟩
def Tryz.laysM171_ren : Go.Shelf.Ren := ⟨fun | 171 => 111 | 243 => 169 | 246 => 233 | 283 => 272 | 284 => 273 | 285 => 274 | 286 => 275 | 129 => 295 | 317 => 294 | 318 => 296 | 319 => 297 | 320 => 298 | 337 => 307 | 338 => 308 | n => n, fun | 3 => 3 | 9 => 9 | 2 => 2 | 4 => 4 | 171 => 393 | 0 => 0 | 53 => 394 | 37 => 243 | 5 => 5 | 173 => 397 | 212 => 412 | 51 => 413 | 20 => 20 | 213 => 414 | 46 => 415 | 232 => 425 | 233 => 426 | n => n, fun | 17 => 1 | 18 => 4 | 19 => 5 | n => n⟩
theorem Tryz.laysM171 : Go.Proofs.LaysM.n171 Tryz.prog Tryz.laysM171_ren := {
 mixed := by kernel_rfl
 f129 := Tryz.func295.trans (congrArg some (by kernel_rfl))
 f171 := Tryz.func111.trans (congrArg some (by kernel_rfl))
 f243 := Tryz.func169.trans (congrArg some (by kernel_rfl))
 f246 := Tryz.func233.trans (congrArg some (by kernel_rfl))
 f283 := Tryz.func272.trans (congrArg some (by kernel_rfl))
 f284 := Tryz.func273.trans (congrArg some (by kernel_rfl))
 f285 := Tryz.func274.trans (congrArg some (by kernel_rfl))
 f286 := Tryz.func275.trans (congrArg some (by kernel_rfl))
 f317 := Tryz.func294.trans (congrArg some (by kernel_rfl))
 f318 := Tryz.func296.trans (congrArg some (by kernel_rfl))
 f319 := Tryz.func297.trans (congrArg some (by kernel_rfl))
 f320 := Tryz.func298.trans (congrArg some (by kernel_rfl))
 f337 := Tryz.func307.trans (congrArg some (by kernel_rfl))
 f338 := Tryz.func308.trans (congrArg some (by kernel_rfl))
 t0 := Tryz.underlying0
 a0 := Tryz.isAgg0
 z0 := Tryz.sizeOf0
 v0 := Tryz.zeroValue0
 t2 := Tryz.underlying2
 a2 := Tryz.isAgg2
 z2 := Tryz.sizeOf2
 v2 := Tryz.zeroValue2
 t3 := Tryz.underlying3
 a3 := Tryz.isAgg3
 z3 := Tryz.sizeOf3
 v3 := Tryz.zeroValue3
 t4 := Tryz.underlying4
 a4 := Tryz.isAgg4
 z4 := Tryz.sizeOf4
 v4 := Tryz.zeroValue4
 t5 := Tryz.underlying5
 a5 := Tryz.isAgg5
 z5 := Tryz.sizeOf5
 v5 := Tryz.zeroValue5
 t9 := Tryz.underlying9
 a9 := Tryz.isAgg9
 z9 := Tryz.sizeOf9
 v9 := Tryz.zeroValue9
 t20 := Tryz.underlying20
 a20 := Tryz.isAgg20
 z20 := Tryz.sizeOf20
 v20 := Tryz.zeroValue20
 t37 := Tryz.underlying243
 a37 := Tryz.isAgg243
 z37 := Tryz.sizeOf243
 v37 := Tryz.zeroValue243
 t46 := Tryz.underlying415
 a46 := Tryz.isAgg415
 z46 := Tryz.sizeOf415
 v46 := Tryz.zeroValue415
 t51 := Tryz.underlying413
 a51 := Tryz.isAgg413
 z51 := Tryz.sizeOf413
 v51 := Tryz.zeroValue413
 t53 := Tryz.underlying394
 a53 := Tryz.isAgg394
 z53 := Tryz.sizeOf394
 v53 := Tryz.zeroValue394
 t171 := Tryz.underlying393
 a171 := Tryz.isAgg393
 z171 := Tryz.sizeOf393
 v171 := Tryz.zeroValue393
 t173 := Tryz.underlying397
 a173 := Tryz.isAgg397
 z173 := Tryz.sizeOf397
 v173 := Tryz.zeroValue397
 t212 := Tryz.underlying412
 a212 := Tryz.isAgg412
 z212 := Tryz.sizeOf412
 v212 := Tryz.zeroValue412
 t213 := Tryz.underlying414
 a213 := Tryz.isAgg414
 z213 := Tryz.sizeOf414
 t232 := Tryz.underlying425
 a232 := Tryz.isAgg425
 z232 := Tryz.sizeOf425
 v232 := Tryz.zeroValue425
 t233 := Tryz.underlying426
 a233 := Tryz.isAgg426
 z233 := Tryz.sizeOf426
 v233 := Tryz.zeroValue426
 g17 := by kernel_rfl
 g18 := by kernel_rfl
 g19 := by kernel_rfl
 i0 := by kernel_rfl
 i2 := by kernel_rfl
 i3 := by kernel_rfl
 i4 := by kernel_rfl
 i5 := by kernel_rfl
 i9 := by kernel_rfl
 i20 := by kernel_rfl
 i37 := by kernel_rfl
 i46 := by kernel_rfl
 i51 := by kernel_rfl
 i53 := by kernel_rfl
 i171 := by kernel_rfl
 i173 := by kernel_rfl
 i212 := by kernel_rfl
 i232 := by kernel_rfl
 i233 := by kernel_rfl
 m17 := by kernel_rfl
 m18 := by kernel_rfl
 m19 := by kernel_rfl }
open Go.RowKit Go.Sort Go.Lib in
theorem Tryz.strconv_Itoa (n : Int) (h0 : -9223372036854775808 ≤ n) (h1 : n ≤ 9223372036854775807) (w : World) (htab : Lib.TabIs Tryz.prog w "internal/strconv.uint64pow10" .u64 Lib.pow10Tab) :
  Calls Tryz.prog 111 #[.int .i64 n] w fun e w' => e = .returned (.string ⟨(Lib.itoa n).toArray⟩) ∧ ∃ k os, w' = grow (w.drewN k) os := Any.strconv_Itoa Tryz.laysM171 n h0 h1 w htab
def Tryz.lays217_ren : Go.Shelf.Ren := ⟨fun | 217 => 144 | 266 => 215 | n => n, fun | 9 => 9 | 5 => 5 | 3 => 3 | n => n, fun | n => n⟩
theorem Tryz.lays217 : Go.Proofs.Lays.n217 Tryz.prog Tryz.lays217_ren := {
 mixed := by kernel_rfl
 f217 := Tryz.func144.trans (congrArg some (by kernel_rfl))
 f266 := Tryz.func215.trans (congrArg some (by kernel_rfl))
 t3 := Tryz.underlying3
 a3 := Tryz.isAgg3
 z3 := Tryz.sizeOf3
 v3 := Tryz.zeroValue3
 t5 := Tryz.underlying5
 a5 := Tryz.isAgg5
 z5 := Tryz.sizeOf5
 v5 := Tryz.zeroValue5
 t9 := Tryz.underlying9
 a9 := Tryz.isAgg9
 z9 := Tryz.sizeOf9
 v9 := Tryz.zeroValue9 }
open Go.RowKit Go.Lib in
theorem Tryz.stringslite_IndexByte (s : ByteArray) (c : Int) (w : World) :
  Calls Tryz.prog 144 #[.string s, .int .u8 c] w fun e w' => e = .returned (.int .i64 (Lib.indexByte s.data.toList c.toNat.toUInt8)) ∧ w' = w := Any.stringslite_IndexByte Tryz.lays217 s c w
def Tryz.lays219_ren : Go.Shelf.Ren := ⟨fun | 219 => 288 | 217 => 144 | 225 => 303 | 224 => 304 | 267 => 305 | 266 => 215 | 314 => 310 | n => n, fun | 9 => 9 | 3 => 3 | 4 => 4 | 5 => 5 | 46 => 415 | 146 => 423 | 51 => 413 | n => n, fun | 1 => 0 | n => n⟩
def Tryz.lays143_ren : Go.Shelf.Ren := ⟨fun | 143 => 258 | 219 => 288 | 217 => 144 | 225 => 303 | 224 => 304 | 267 => 305 | 266 => 215 | 314 => 310 | n => n, fun | 9 => 9 | 3 => 3 | 4 => 4 | 5 => 5 | 46 => 415 | 146 => 423 | 51 => 413 | n => n, fun | 1 => 0 | n => n⟩
theorem Tryz.lays143 : Go.Proofs.Lays.n143 Tryz.prog Tryz.lays143_ren := {
 mixed := by kernel_rfl
 f143 := Tryz.func258.trans (congrArg some (by kernel_rfl))
 f217 := Tryz.func144.trans (congrArg some (by kernel_rfl))
 f219 := Tryz.func288.trans (congrArg some (by kernel_rfl))
 f224 := Tryz.func304.trans (congrArg some (by kernel_rfl))
 f225 := Tryz.func303.trans (congrArg some (by kernel_rfl))
 f266 := Tryz.func215.trans (congrArg some (by kernel_rfl))
 f267 := Tryz.func305.trans (congrArg some (by kernel_rfl))
 f314 := Tryz.func310.trans (congrArg some (by kernel_rfl))
 t3 := Tryz.underlying3
 a3 := Tryz.isAgg3
 z3 := Tryz.sizeOf3
 v3 := Tryz.zeroValue3
 t4 := Tryz.underlying4
 a4 := Tryz.isAgg4
 z4 := Tryz.sizeOf4
 v4 := Tryz.zeroValue4
 t5 := Tryz.underlying5
 a5 := Tryz.isAgg5
 z5 := Tryz.sizeOf5
 v5 := Tryz.zeroValue5
 t9 := Tryz.underlying9
 a9 := Tryz.isAgg9
 z9 := Tryz.sizeOf9
 v9 := Tryz.zeroValue9
 t46 := Tryz.underlying415
 a46 := Tryz.isAgg415
 z46 := Tryz.sizeOf415
 v46 := Tryz.zeroValue415
 t51 := Tryz.underlying413
 a51 := Tryz.isAgg413
 z51 := Tryz.sizeOf413
 v51 := Tryz.zeroValue413
 t146 := Tryz.underlying423
 a146 := Tryz.isAgg423
 z146 := Tryz.sizeOf423
 v146 := Tryz.zeroValue423
 g1 := by kernel_rfl }
open Go.RowKit Go.Lib in
theorem Tryz.strings_Index_one (s : ByteArray) (c : UInt8) (w : World) :
  Calls Tryz.prog 258 #[.string s, .string ⟨#[c]⟩] w fun e w' => e = .returned (.int .i64 (Lib.indexByte s.data.toList c)) ∧ w' = w := Any.strings_Index_one Tryz.lays143 s c w
def Tryz.lays138_ren : Go.Shelf.Ren := ⟨fun | 138 => 257 | 195 => 285 | 218 => 287 | 143 => 258 | 219 => 288 | 217 => 144 | 225 => 303 | 224 => 304 | 267 => 305 | 266 => 215 | 314 => 310 | n => n, fun | 9 => 9 | 3 => 3 | 4 => 4 | 5 => 5 | 0 => 0 | 46 => 415 | 146 => 423 | 51 => 413 | n => n, fun | 1 => 0 | n => n⟩
theorem Tryz.lays138 : Go.Proofs.Lays.n138 Tryz.prog Tryz.lays138_ren := {
 mixed := by kernel_rfl
 f138 := Tryz.func257.trans (congrArg some (by kernel_rfl))
 f143 := Tryz.func258.trans (congrArg some (by kernel_rfl))
 f195 := Tryz.func285.trans (congrArg some (by kernel_rfl))
 f217 := Tryz.func144.trans (congrArg some (by kernel_rfl))
 f218 := Tryz.func287.trans (congrArg some (by kernel_rfl))
 f219 := Tryz.func288.trans (congrArg some (by kernel_rfl))
 f224 := Tryz.func304.trans (congrArg some (by kernel_rfl))
 f225 := Tryz.func303.trans (congrArg some (by kernel_rfl))
 f266 := Tryz.func215.trans (congrArg some (by kernel_rfl))
 f267 := Tryz.func305.trans (congrArg some (by kernel_rfl))
 f314 := Tryz.func310.trans (congrArg some (by kernel_rfl))
 t0 := Tryz.underlying0
 a0 := Tryz.isAgg0
 z0 := Tryz.sizeOf0
 v0 := Tryz.zeroValue0
 t3 := Tryz.underlying3
 a3 := Tryz.isAgg3
 z3 := Tryz.sizeOf3
 v3 := Tryz.zeroValue3
 t4 := Tryz.underlying4
 a4 := Tryz.isAgg4
 z4 := Tryz.sizeOf4
 v4 := Tryz.zeroValue4
 t5 := Tryz.underlying5
 a5 := Tryz.isAgg5
 z5 := Tryz.sizeOf5
 v5 := Tryz.zeroValue5
 t9 := Tryz.underlying9
 a9 := Tryz.isAgg9
 z9 := Tryz.sizeOf9
 v9 := Tryz.zeroValue9
 t46 := Tryz.underlying415
 a46 := Tryz.isAgg415
 z46 := Tryz.sizeOf415
 v46 := Tryz.zeroValue415
 t51 := Tryz.underlying413
 a51 := Tryz.isAgg413
 z51 := Tryz.sizeOf413
 v51 := Tryz.zeroValue413
 t146 := Tryz.underlying423
 a146 := Tryz.isAgg423
 z146 := Tryz.sizeOf423
 v146 := Tryz.zeroValue423
 g1 := by kernel_rfl }
open Go.RowKit Go.Lib in
theorem Tryz.strings_Count_one (s : ByteArray) (c : UInt8) (w : World) :
  Calls Tryz.prog 257 #[.string s, .string ⟨#[c]⟩] w fun e w' => e = .returned (.int .i64 (Lib.countByte s.data.toList c)) ∧ w' = w := Any.strings_Count_one Tryz.lays138 s c w
def Tryz.lays207_ren : Go.Shelf.Ren := ⟨fun | 207 => 82 | n => n, fun | 9 => 9 | 4 => 4 | 3 => 3 | n => n, fun | n => n⟩
def Tryz.lays100_ren : Go.Shelf.Ren := ⟨fun | 100 => 39 | 207 => 82 | n => n, fun | 9 => 9 | 4 => 4 | 3 => 3 | n => n, fun | n => n⟩
theorem Tryz.lays100 : Go.Proofs.Lays.n100 Tryz.prog Tryz.lays100_ren := {
 mixed := by kernel_rfl
 f100 := Tryz.func39.trans (congrArg some (by kernel_rfl))
 f207 := Tryz.func82.trans (congrArg some (by kernel_rfl))
 t3 := Tryz.underlying3
 a3 := Tryz.isAgg3
 z3 := Tryz.sizeOf3
 v3 := Tryz.zeroValue3
 t4 := Tryz.underlying4
 a4 := Tryz.isAgg4
 z4 := Tryz.sizeOf4
 v4 := Tryz.zeroValue4
 t9 := Tryz.underlying9
 a9 := Tryz.isAgg9
 z9 := Tryz.sizeOf9
 v9 := Tryz.zeroValue9 }
open Go.RowKit Go.Lib in
theorem Tryz.strings_HasSuffix (s p : ByteArray) (w : World) (hs : s.size ≤ 9223372036854775807) :
  Calls Tryz.prog 39 #[.string s, .string p] w fun e w' => e = .returned (.bool (Lib.hasSuffix s.data.toList p.data.toList)) ∧ w' = w := Any.strings_HasSuffix Tryz.lays100 s p w hs
def Tryz.lays102_ren : Go.Shelf.Ren := ⟨fun | 102 => 42 | 209 => 88 | 207 => 82 | n => n, fun | 9 => 9 | 4 => 4 | 3 => 3 | n => n, fun | n => n⟩
theorem Tryz.lays102 : Go.Proofs.Lays.n102 Tryz.prog Tryz.lays102_ren := {
 mixed := by kernel_rfl
 f102 := Tryz.func42.trans (congrArg some (by kernel_rfl))
 f207 := Tryz.func82.trans (congrArg some (by kernel_rfl))
 f209 := Tryz.func88.trans (congrArg some (by kernel_rfl))
 t3 := Tryz.underlying3
 a3 := Tryz.isAgg3
 z3 := Tryz.sizeOf3
 v3 := Tryz.zeroValue3
 t4 := Tryz.underlying4
 a4 := Tryz.isAgg4
 z4 := Tryz.sizeOf4
 v4 := Tryz.zeroValue4
 t9 := Tryz.underlying9
 a9 := Tryz.isAgg9
 z9 := Tryz.sizeOf9
 v9 := Tryz.zeroValue9 }
open Go.RowKit Go.Lib in
theorem Tryz.strings_TrimSuffix (s p : ByteArray) (w : World) (hs : s.size ≤ 9223372036854775807) :
  Calls Tryz.prog 42 #[.string s, .string p] w fun e w' => e = .returned (.string ⟨(Lib.trimSuffix s.data.toList p.data.toList).toArray⟩) ∧ w' = w := Any.strings_TrimSuffix Tryz.lays102 s p w hs
end Go.Proofs
