/-
  The law CueSpoilt of package kelirlaw04 returns true for every input, and each argument reads afterwards as it read before: the tied card. Conditions: what the row lists of package-level variables, tied to the text of the program.
-/
import Derived.Test.YtdhdaadoehbopaaGreatDoorEb
import Derived.Laws.BytesString
import Derived.Test.YtdhdaadoehbopaaGreatDoorCz
import Derived.Test.YtdhdaadoehbopaaGreatDoorVc
import Derived.Tactics
import Derived.Tactics2
import Derived.WalkKit
import Derived.WalkSpells
import Derived.Test.YtdhdaadoehbopaaGreatDoorEc
import Derived.Test.YtdhdaadoehbopaaGreatDoorVr
import Derived.Test.YtdhdaadoehbopaaGreatDoorRows
import Derived.Test.YtdhdaadoehbopaaGreatDoorTie
import Derived.Test.YtdhdaadoehbopaaGreatDoorCards
import Derived.SevenTiedAt

namespace Go.Vm
open Go.Proofs Go.RowKit
def byteC (s : ByteArray) (cap : Nat) : Array Value := (s.data.map fun b => Value.int .u8 b.toNat) ++ Array.replicate (cap - s.size) (.int .u8 0)
theorem byteC_size {s : ByteArray} {cap : Nat} (h : s.size ≤ cap) : (byteC s cap).size = cap := by
 unfold byteC
 rw [Array.size_append, Array.size_map, Array.size_replicate]
 have : s.data.size = s.size := rfl
 omega
theorem modify_push {α : Type} (h : Array α) (x : α) (f : α → α) : (h.push x).modify h.size f = h.push (f x) := by
 apply Array.ext_getElem?
 intro i
 rw [Array.getElem?_modify, Array.getElem?_push, Array.getElem?_push]
 by_cases e : h.size = i
 ·subst e
  simp
 ·rw [if_neg e, if_neg (Ne.symm e), if_neg (Ne.symm e)]
theorem conv_bytes {P : Program} {src dst e : TypeId} (hs : P.underlying src = some .string) (hd : P.underlying dst = some (.slice e)) (he : P.underlying e = some (.int .u8)) (s : ByteArray) (w : World) :
  ∃ cap w2, (convert src dst (.string s)).run P w = .ok (.slice (some ⟨w.heap.size, 0, none⟩) s.size cap) w2 ∧ s.size ≤ cap ∧
   w2.heap = w.heap.push (.cells (byteC s cap) e (cap, cap + 1)) ∧ Rest w w2 := by
 have e1 : ∀ w, (underlying src).run P w = .ok .string w := run_underlying hs
 have e2 : ∀ w, (underlying dst).run P w = .ok (.slice e) w := run_underlying hd
 have e3 : ∀ w, (underlying e).run P w = .ok (.int .u8) w := run_underlying he
 unfold convert
 rw [Sem.run_bind, e1]
 simp only [Result.andThen_ok]
 rw [Sem.run_bind, e2]
 simp only [Result.andThen_ok]
 rw [Sem.run_bind, e3]
 simp only [Result.andThen_ok]
 unfold Conv.stringToBytes
 rw [Sem.run_bind, run_choose]
 have hm : (Question.appendCap s.size 0 e).forced = false := rfl
 simp only [hm, Bool.false_eq_true, if_false, Result.andThen_ok]
 rw [Sem.run_bind]
 simp [newRow, newObj, markStringish, shape, Sem.run]
 generalize hcap : (Question.appendCap s.size 0 e).cut (w.tape w.drawn (Question.appendCap s.size 0 e)) = cap
 have hle : s.size ≤ cap := by
  rw [← hcap]
  simp [Question.cut]
 have hsz := byteC_size hle
 have hC : (Array.map (fun b : UInt8 => Value.int IntKind.u8 b.toNat) s.data ++ Array.replicate (cap - s.size) (Value.int IntKind.u8 0)) = byteC s cap := rfl
 rw [hC]
 generalize hB : byteC s cap = C at hsz
 have hdr : w.drew.heap = w.heap := rfl
 rw [hdr]
 have hsh : ({ heap := w.heap.push (.cells C e), tape := w.tape, drawn := w.drawn + 1, os := w.drew.os, output := w.drew.output } : World).shape? w.heap.size = some (e, C.size) := by
  simp [World.shape?]
 rw [hsh]
 refine ⟨cap, _, rfl, hle, ?_, ?_⟩
 ·rw [hB]
  unfold World.freeze
  rw [if_neg (by decide)]
  dsimp only
  rw [modify_push]
  simp [hsz]
 ·exact ⟨rfl, rfl⟩
def Laid (w : World) (n : Nat) (l : List UInt8) (a a2 : Act) (w2 : World) : Prop := a2.tmps.size = a.tmps.size ∧ a2.defers = a.defers ∧ (∀ b, b < w.heap.size → w2.heap[b]? = w.heap[b]?) ∧ Rest w w2 ∧
 ∃ cap, a2.tmps[9]? = some (.slice (some ⟨w.heap.size, 0, none⟩) n cap) ∧ n ≤ cap ∧ ∃ C t f, w2.heap[w.heap.size]? = some (.cells C t f) ∧ n ≤ C.size ∧ ∀ j, j < n → C[j]? = (l.map fun b => Value.int .u8 b.toNat)[j]?
def bytesV (l : List UInt8) : List AV := l.map fun b => .lit (.int .u8 b.toNat)
theorem bytes_rels [Outer] (S : Sit) : ∀ l : List UInt8, VRels S (bytesV l) (l.map fun b => Value.int .u8 b.toNat)
 | [] => by simp [bytesV, VRels]
 | b :: l => by
  have := bytes_rels S l
  unfold bytesV at this ⊢
  simp only [List.map_cons, VRels, VRel]
  exact ⟨trivial, this⟩
theorem WR.laid {r8 r9 b : Code} {k : Nat} {vars : Trie AV} {t : Trie Blk} {n lo : Nat} {d : List Nat} {Q : CodeQ} {s : ByteArray} {l : List UInt8} {at' dg : Int} (h7 : get vars 7 = some (sA s)) (h1 : get vars 1 = some (n' at')) (h2 : get vars 2 = some (n' dg)) (hl : l.length = s.size)
  (h : ∀ (a : Act) (w : World), a.tmps.size = k → a.tmps[7]? = some (.string s) → a.tmps[1]? = some (.int .i64 at') → a.tmps[2]? = some (.int .i64 dg) →
   r8.wp Tryz.prog (fun e a1 w1 => e = .normal ∧ r9.wp Tryz.prog (fun e2 a2 w2 => e2 = .normal ∧ Laid w s.size l a a2 w2) a1 w1) a w)
  (hk : WR Tryz.prog none b k (ofL [(9, .sl l.length (bytesV l) .unk)]) t n d lo Q) : WR Tryz.prog none (.seq r8 (.seq r9 b)) k vars t n d lo Q := by
 intro H H0 hH hkp
 obtain ⟨x, e, lo2, H2, g1, g2, hrun, hq⟩ := hk H H0 hH hkp
 refine ⟨x, e, lo2, H2, g1, g2, ?_, hq⟩
 intro O ι a w cro hro hs
 have hcro : cro = none := hro
 subst hcro
 have slot : ∀ {i : Nat} {v : Value}, get vars i = some (.lit v) → a.tmps[i]? = some v := fun {i v} hg => by
  obtain ⟨c, hc, hr⟩ := hs.vars i _ hg
  simp only [VRel] at hr
  rw [hc, hr]
 have hw := h a w hs.size (slot h7) (slot h1) (slot h2)
 refine wpIn_seq ?_
 show r8.wpIn Fence.wide 0 Tryz.prog _ a w
 refine wpIn_wide.2 (wp_mono hw ?_)
 rintro e1 a1 w1 ⟨rfl, hw2⟩
 show (Code.seq r9 b).wpIn (Fr none) 0 Tryz.prog _ a1 w1
 refine wpIn_seq ?_
 show r9.wpIn Fence.wide 0 Tryz.prog _ a1 w1
 refine wpIn_wide.2 (wp_mono hw2 ?_)
 rintro e2 a2 w2 ⟨rfl, hsz, hdef, hheap, hrest, cap, h9, hcap, C, ty, f, hblk, hCn, hC⟩
 show b.wpIn (Fr none) 0 Tryz.prog _ a2 w2
 have hev : Ev ⟨H, ι, w⟩ ⟨H, ι, w2⟩ := by
  have := Ev.fresh hs.rel (w' := w2) (H2 := []) hheap hrest
  simpa using this
 have hR : Rel ⟨H, ι, w2⟩ := by
  have := Rel.fresh hs.rel (w' := w2) (H2 := []) hheap hrest
  simpa using this
 refine wpIn_mono (hrun O ι a2 w2 none rfl ⟨hR, by rw [hsz]; exact hs.size, fun i v hg => ?_, by rw [hdef]; exact hs.defs.ev hev (fun _ h => h)⟩) (Post.trans hev Non.same)
 have hg' : get (ofL [(9, AV.sl l.length (bytesV l) .unk)]) i = some v := hg
 have hm := get_ofL hg'
 simp only [List.mem_singleton, Prod.mk.injEq] at hm
 obtain ⟨rfl, rfl⟩ := hm
 refine ⟨_, h9, ?_⟩
 simp only [VRel]
 have hbl : (bytesV l).length = l.length := List.length_map _
 refine ⟨_, cap, by rw [hl], by omega, .inr ⟨w.heap.size, 0, rfl, ⟨C, ty, f, hblk, by rw [hbl]; omega, fun i wm e => ?_, fun x e => ?_⟩, VRow.of_cells (S := ⟨H, ι, w2⟩) hblk (fun j hj => ?_) (bytes_rels _ l)⟩, trivial⟩
 ·have := hs.rel.block e
  have h3 : w.heap.size < w.heap.size := this
  omega
 ·have := (hs.rel.out _ x e).1
  have h3 : w.heap.size < w.heap.size := this
  omega
 ·rw [List.length_map] at hj
  rw [Nat.zero_add]
  exact hC j (by omega)
end Go.Vm

namespace Go.Vm
open Go.Proofs Go.RowKit
theorem byteC_at {s : ByteArray} {cap j : Nat} (h : j < s.size) : (byteC s cap)[j]? = some (.int .u8 (((lB s).getD j 0).toNat : Nat)) := by
 have hl : j < (lB s).length := h
 have h2 : j < s.data.size := h
 unfold byteC
 rw [Array.getElem?_append_left (by rw [Array.size_map]; exact h2), Array.getElem?_map, List.getD_eq_getElem?_getD, List.getElem?_eq_getElem hl, Array.getElem?_eq_getElem h2]
 rfl
def r8 : Code := .region 8 #[{ dst := some 66, op := .move (.tmp 7), type := 9, pos := "law.go:754", after := #[], guard := none },
      { dst := some 67, op := .convert 9 109 (.tmp 66), type := 109, pos := "law.go:754", after := #[{ on := 0, ground := .data }], guard := none },
      { dst := some 9, op := .assign (.tmp 67), type := 109, pos := "law.go:754", after := #[{ on := 1, ground := .data }, { on := 0, ground := .phase }, { on := 1, ground := .phase }], guard := none }] false
def r9 : Code := .region 9 #[{ dst := some 68, op := .move (.tmp 9), type := 109, pos := "law.go:755", after := #[], guard := none },
      { dst := some 69, op := .move (.tmp 1), type := 3, pos := "law.go:755", after := #[], guard := none },
      { dst := some 70, op := .move (.tmp 2), type := 3, pos := "law.go:755", after := #[], guard := none },
      { dst := some 71, op := .binOp .add 3 (.const (.int .i64 48)) (.tmp 70) 3, type := 3, pos := "law.go:755", after := #[{ on := 2, ground := .data }], guard := none },
      { dst := some 72, op := .convert 3 5 (.tmp 71), type := 5, pos := "law.go:755", after := #[{ on := 3, ground := .data }], guard := none },
      { dst := some 73, op := .indexAddr 109 (.tmp 68) (.tmp 69), type := 0, pos := "law.go:755",
        after := #[{ on := 0, ground := .data }, { on := 1, ground := .data }, { on := 0, ground := .phase }, { on := 1, ground := .phase }, { on := 2, ground := .phase }, { on := 3, ground := .phase }, { on := 4, ground := .phase }], guard := none },
      { dst := none, op := .store 5 (.tmp 73) (.tmp 72), type := 0, pos := "law.go:755",
        after := #[{ on := 5, ground := .data }, { on := 4, ground := .data }, { on := 0, ground := .phase }, { on := 1, ground := .phase }, { on := 2, ground := .phase }, { on := 3, ground := .phase }, { on := 4, ground := .phase }], guard := none }] false
set_option maxHeartbeats 4000000 in
set_option maxRecDepth 100000 in
theorem spoil_wp {s : ByteArray} {k dd : Nat} (hk : k < s.size) (hd : dd ≤ 9) (a : Act) (w : World) (ha : a.tmps.size = 90) (h7' : a.tmps[7]? = some (.string s)) (h1' : a.tmps[1]? = some (.int .i64 k)) (h2' : a.tmps[2]? = some (.int .i64 dd)) :
  r8.wp Tryz.prog (fun e a1 w1 => e = .normal ∧ r9.wp Tryz.prog (fun e2 a2 w2 => e2 = .normal ∧ Laid w s.size ((lB s).set k (UInt8.ofNat (48 + dd))) a a2 w2) a1 w1) a w := by
 unfold r8 r9
 obtain ⟨_, g7⟩ := Array.getElem?_eq_some_iff.1 h7'
 obtain ⟨_, g1⟩ := Array.getElem?_eq_some_iff.1 h1'
 obtain ⟨_, g2⟩ := Array.getElem?_eq_some_iff.1 h2'
 have hv : (UInt8.ofNat (48 + dd)).toNat = 48 + dd := by
  rw [UInt8.toNat_ofNat']
  omega
 generalize UInt8.ofNat (48 + dd) = v at hv
 refine wp_region_lit ?_
 refine wpList_step fun K hK => ?_
 simp [go_sem, ha, g7]
 refine hK _ _ ?_
 clear hK K
 obtain ⟨cap, w2, hcv, hle, hheap, hrest⟩ := conv_bytes (P := Tryz.prog) (src := 9) (dst := 109) (e := 5) (by kernel_rfl) (by kernel_rfl) (by kernel_rfl) s w
 refine wpList_step fun K hK => ?_
 simp [go_sem, ha, hcv]
 refine hK _ _ ?_
 clear hK K
 refine wpList_step fun K hK => ?_
 simp [go_sem, ha]
 refine hK _ _ ?_
 clear hK K
 refine wpList_nil ?_
 refine ⟨rfl, ?_⟩
 refine wp_region_lit ?_
 refine wpList_step fun K hK => ?_
 simp [go_sem, ha]
 refine hK _ _ ?_
 clear hK K
 refine wpList_step fun K hK => ?_
 simp [go_sem, ha, g1]
 refine hK _ _ ?_
 clear hK K
 refine wpList_step fun K hK => ?_
 simp [go_sem, ha, g2]
 refine hK _ _ ?_
 clear hK K
 have hw1 : IntKind.i64.wrap (48 + (dd : Int)) = 48 + (dd : Int) := wrap_i64 (by omega) (by omega)
 have hw2 : IntKind.u8.wrap (48 + (dd : Int)) = 48 + (dd : Int) := fits8 (by omega)
 refine wpList_step fun K hK => ?_
 simp [go_sem, ha, hw1]
 refine hK _ _ ?_
 clear hK K
 refine wpList_step fun K hK => ?_
 simp [go_sem, ha, hw2]
 refine hK _ _ ?_
 clear hK K
 have hk2 : (k : Int) < (s.size : Int) := by omega
 refine wpList_step fun K hK => ?_
 simp [go_sem, ha, hk]
 refine hK _ _ ?_
 clear hK K
 have hblk : w2.heap[w.heap.size]? = some (.cells (byteC s cap) 5 (cap, cap + 1)) := by
  rw [hheap, Array.getElem?_push, if_pos rfl]
 have hsz := byteC_size hle
 have hcell : w2.cell? ⟨w.heap.size, k, none⟩ = some (.int .u8 (((lB s).getD k 0).toNat : Nat)) := by
  rw [cell_eq, hblk]
  simp only
  exact byteC_at hk
 have hfr : w2.frozen? ⟨w.heap.size, k, none⟩ = false := by
  simp [World.frozen?, hblk]
  omega
 refine wpList_step fun K hK => ?_
 simp [go_sem, ha, hcell, hfr]
 refine hK _ _ ?_
 clear hK K
 refine wpList_nil ?_
 refine ⟨rfl, by simp, rfl, fun b hb => ?_, hrest, cap, by simp [ha], hle, (byteC s cap).setIfInBounds k (.int .u8 (48 + (dd : Int))), 5, (cap, cap + 1), ?_, by rw [Array.size_setIfInBounds, hsz]; exact hle, fun j hj => ?_⟩
 ·rw [Below.heap_setCell _ _ _ _ (show b ≠ w.heap.size by omega), hheap, Array.getElem?_push_lt hb]
  simp [hb]
 ·simp only [World.setCell]
  rw [Array.getElem?_modify, if_pos rfl, hblk]
  rfl
 ·rw [Array.getElem?_setIfInBounds, List.getElem?_map]
  by_cases e : k = j
  ·subst e
   have hl : k < (lB s).length := hk
   rw [if_pos rfl, if_pos (by rw [hsz]; omega), List.getElem?_set_self hl]
   show _ = some (Value.int .u8 (v.toNat : Nat))
   rw [hv]
   rfl
  ·rw [if_neg e, List.getElem?_set_ne e]
   rw [byteC_at hj]
   have hl : j < (lB s).length := hj
   rw [List.getElem?_eq_getElem hl, List.getD_eq_getElem?_getD, List.getElem?_eq_getElem hl]
   rfl
theorem numsOf_bytes : ∀ l : List UInt8, numsOf (bytesV l) = some (l.map fun b => ((b.toNat : Nat) : Int))
 | [] => rfl
 | b :: l => by
  have := numsOf_bytes l
  unfold bytesV at this ⊢
  rw [List.map_cons, numsOf, this]
  rfl
theorem strOf_bytes (l : List UInt8) : strOf (l.map fun b => ((b.toNat : Nat) : Int)) = bT l := by
 have key : ∀ (l : List UInt8) (r : ByteArray), (l.map fun b => ((b.toNat : Nat) : Int)).foldl (fun r n => r.push (UInt8.ofNat n.toNat)) r = bT (lB r ++ l) := fun l => by
  induction l with
  | nil => intro r; rw [List.append_nil]; rfl
  | cons b l ih =>
   intro r
   rw [List.map_cons, List.foldl_cons, ih]
   have e : lB (r.push (UInt8.ofNat (((b.toNat : Nat) : Int)).toNat)) = lB r ++ [b] := by
    rw [Int.toNat_natCast, UInt8.ofNat_toNat]
    unfold lB
    rw [ByteArray.data_push, Array.toList_push]
   rw [e, List.append_assoc]
   rfl
 exact key l ByteArray.empty
theorem aop_bytes {m : Bool} {g : Nat → Option Blk} {n : Nat} {ρ : Operand → Option AV} {o : Oper} {x : Operand} {l : List UInt8} (ho : o.op = .convert 109 9 x) (hx : ρ x = some (.sl l.length (bytesV l) .unk)) : aopF Tryz.prog m g n ρ o = some (.val (sA (bT l)) .same) := by
 rw [aopF_fun]
 obtain ⟨dst, op, ty, pos, after, guard⟩ := o
 simp only at ho
 subst ho
 have h1 : convB Tryz.prog [] 109 9 (.sl l.length (bytesV l) .unk) = some (sA (bT l)) := by
  unfold convB
  simp only [show Tryz.prog.underlying 109 = some (.slice 5) by kernel_rfl, show Tryz.prog.underlying 9 = some .string by kernel_rfl]
  unfold bytesA
  simp only [show Tryz.prog.underlying 109 = some (.slice 5) by kernel_rfl, show Tryz.prog.underlying 5 = some (.int .u8) by kernel_rfl, laidSl, if_true]
  unfold srcCells
  simp only
  have e : (bytesV l).length = l.length * 1 := by
   unfold bytesV
   rw [List.length_map, Nat.mul_one]
  rw [if_pos e]
  simp only
  rw [numsOf_bytes]
  show some (sA (strOf _)) = _
  rw [strOf_bytes]
 simp only [aopT, plainT, aop, hx, Option.bind_some, h1, Option.map_some]
end Go.Vm

namespace Go.Vm
open Go.Proofs Go.RowKit
theorem fn_ruleW {P : Program} {f : FuncId} {fn : Func} {c : Code} {args : List AV} {v : AV} (hf : P.funcs[f]? = some fn) (hb : fn.body = some c) (hn : args.length ≤ fn.ntmps) (ha : AV.unders 0 args) (hv : v.under 0)
  (h : WR P none c fn.ntmps (initVars 0 args) .nil 0 [] noLo fun x e _ => (x = .ret ∨ x = .normal) ∧ FinG P fn.results.toList e v) (H : List Blk) : ACall P f args H (.ret v) H := by
 obtain ⟨x, e, lo, H', hH', hk', hrun, hx, vs, hres, hd, hfr⟩ := h [] [] HT.nil (Keep.refl _ _)
 have hcr : ACall P f args [] (.ret (resV vs)) H' := by
  rw [hd] at hrun
  exact ACall.intro_marks hf hb hn hrun hx List.nodup_nil (resT_sound hH' hres)
 subst hfr
 exact hcr.freeze0 hH'.blk ha hv H
theorem gCode_region {P : Program} {m : Bool} {k id : Nat} {ro : Option Nat} {ops : Array Oper} {vars : Trie AV} {t : Trie Blk} {n lo : Nat} {d : List Nat} {Q : CodeQ} (h : gOps P m k ops (fun v vars' t' n' lo' => Q (.pan v) ⟨vars', t', n', d⟩ lo') ops.toList vars t n lo (fun vars' t' n' lo' => Q .normal ⟨vars', t', n', d⟩ lo')) :
  gCode P m k ro (.region id ops false) vars t n d lo Q := h
theorem low0 : LowB ⟨0, 0, []⟩ := low_of (N := 0) (c := 0) (t := 0) (by decide) (by decide) (by decide) (fun v hv => by cases hv) (Nat.le_refl _)
set_option maxHeartbeats 4000000 in
set_option maxRecDepth 100000 in
theorem c_cueSpoilt (b : Book) (at' dg : Int) (H : List Blk) : ACall Tryz.prog 26 [eBook b, n' at', n' dg] H (.ret (.lit (.bool true))) H := by
 refine fn_ruleW (v := .lit (.bool true)) (args := [eBook b, n' at', n' dg]) (fn := Tryz.f26) (c := (Tryz.f26.body).getD .skip) (by kernel_rfl) (by kernel_rfl) (of_decide_eq_true (by kernel_rfl)) ⟨under_eBook 0 _, trivial, trivial, trivial⟩ trivial ?_ H
 refine WR.seq (WR.of (m := false) mixed ?_)
 refine WR.seq (WR.of (m := false) mixed ?_)
 refine CallG.bool (c_short _) (fun hsh => ?_) (fun _ => ?_)
 ·refine CallG.bool (c_book hsh.len) (fun hB => ?_) (fun _ => ?_)
  ·refine If.mk (fun h1 => ?_) (fun h1 => ?_)
   ·refine ifY ?_
    refine CallG.pure _ (known_call) ?_
    exact ⟨.inl rfl, FinG.mk _ rfl rfl rfl⟩
   ·refine If.mk (fun h2 => ?_) (fun h2 => ?_)
    ·refine ifY ?_
     refine CallG.pure _ (known_call) ?_
     exact ⟨.inl rfl, FinG.mk _ rfl rfl rfl⟩
    ·refine ifN ?_
     have hp := c_Print hsh.len hB
     refine WR.seq (WR.of (m := false) mixed ?_)
     refine CallG.pure _ (hp) ?_
     refine WR.seq (WR.of (m := false) mixed ?_)
     refine If.mk (fun _ => ?_) (fun h => absurd (by decide) h)
     refine ifN ?_
     refine WR.seq (WR.of (m := false) mixed ?_)
     have hsz : (sealS (rowsB b)).size = (lB (sealS (rowsB b))).length := rfl
     refine If.mk (fun h3 => ?_) (fun h3 => ?_)
     ·refine ifY ?_
      refine CallG.pure _ (known_call) ?_
      exact ⟨.inl rfl, FinG.mk _ rfl rfl rfl⟩
     ·refine If.mk (fun h4 => ?_) (fun h4 => ?_)
      ·refine ifY ?_
       refine CallG.pure _ (known_call) ?_
       exact ⟨.inl rfl, FinG.mk _ rfl rfl rfl⟩
      ·obtain ⟨k, rfl⟩ : ∃ k : Nat, at' = k := ⟨at'.toNat, by omega⟩
       obtain ⟨dd, rfl⟩ : ∃ k : Nat, dg = k := ⟨dg.toNat, by omega⟩
       obtain ⟨x, hx⟩ : ∃ x, (lB (sealS (rowsB b)))[k]? = some x := ⟨_, List.getElem?_eq_getElem (by omega)⟩
       refine ex_val _ (idx_bT (l := lB (sealS (rowsB b))) (r := k) rfl hx) ?_
       refine If.mk (fun h5 => ?_) (fun h5 => ?_)
       ·refine ifY ?_
        refine CallG.pure _ (known_call) ?_
        exact ⟨.inl rfl, FinG.mk _ rfl rfl rfl⟩
       ·refine ex_val _ (idx_bT (l := lB (sealS (rowsB b))) (r := k) rfl hx) ?_
        refine If.mk (fun h6 => ?_) (fun h6 => ?_)
        ·refine ifY ?_
         refine CallG.pure _ (known_call) ?_
         exact ⟨.inl rfl, FinG.mk _ rfl rfl rfl⟩
        ·refine ex_val _ (idx_bT (l := lB (sealS (rowsB b))) (r := k) rfl hx) ?_
         refine Side.mk (fits8 (by have := UInt8.toNat_lt x; omega)) ?_
         have hdx : isDig x = true := by
          unfold isDig
          simp only [Bool.and_eq_true, decide_eq_true_eq]
          omega
         have hw := dig_val hdx
         refine If.mk (fun h7 => ?_) (fun h7 => ?_)
         ·refine ifY ?_
          refine CallG.pure _ (known_call) ?_
          exact ⟨.inl rfl, FinG.mk _ rfl rfl rfl⟩
         ·refine ifN ?_
          rw [hw] at h7
          refine WR.laid (s := sealS (rowsB b)) (l := (lB (sealS (rowsB b))).set k (UInt8.ofNat (48 + dd))) (at' := k) (dg := dd) rfl rfl rfl (by rw [List.length_set]; rfl) ?_ ?_
          ·intro a w ha h7' h1' h2'
           exact spoil_wp (by omega) (by omega) a w ha h7' h1' h2'
          ·refine WR.seq (WR.of (m := false) mixed ?_)
           have hl2 : ((lB (sealS (rowsB b))).set k (UInt8.ofNat (48 + dd))).length ≤ 450 := by
            rw [List.length_set]
            exact BOk.small hB
           have hv : (UInt8.ofNat (48 + dd)).toNat = 48 + dd := by
            rw [UInt8.toNat_ofNat']
            omega
           have hdv : isDig (UInt8.ofNat (48 + dd)) = true := by
            unfold isDig
            simp only [Bool.and_eq_true, decide_eq_true_eq]
            omega
           have hne : x ≠ UInt8.ofNat (48 + dd) := fun e => h7 (by
            rw [e]
            unfold dg
            rw [hv]
            omega)
           have hno : bookOf ((lB (sealS (rowsB b))).set k (UInt8.ofNat (48 + dd))) = none := by
            cases hb : bookOf ((lB (sealS (rowsB b))).set k (UInt8.ofNat (48 + dd))) with
            | none => rfl
            | some b' =>
             obtain ⟨hlow, he⟩ := bookOf_some.1 hb
             exact absurd (congrArg lB he) (spoilt hB hlow hx hdx hdv hne)
           generalize (lB (sealS (rowsB b))).set k (UInt8.ofNat (48 + dd)) = l at *
           have hrd := c_Read (l := l) (by omega)
           rw [readV_none (by omega) hno] at hrd
           refine gCode_region ?_
           apply gOps_now
           case hw => rfl
           case hd => rfl
           case hs => rfl
           case hn => exact fun _ => rfl
           case ha => exact rfl
           apply gOps_now
           case hw => rfl
           case hd => rfl
           case hs => rfl
           case hn => exact fun _ => rfl
           case ha => exact (aop_bytes rfl rfl)
           refine CallG.pure _ (hrd) ?_
           refine WR.of (m := false) mixed ?_
           refine If.mk (fun _ => ?_) (fun h => absurd (by decide) h)
           refine CallG.weak _ (.cons (fun H => wk_bookZ 0 0 H) (.cons (fun H => wk_bookZ 0 0 H) .nil)) (c_sameLow low0) ?_
           refine CallG.pure _ (known_call) ?_
           exact ⟨.inl rfl, FinG.mk _ rfl rfl rfl⟩
  ·refine ifY ?_
   refine CallG.pure _ (known_call) ?_
   exact ⟨.inl rfl, FinG.mk _ rfl rfl rfl⟩
 ·refine ifY ?_
  refine CallG.pure _ (known_call) ?_
  exact ⟨.inl rfl, FinG.mk _ rfl rfl rfl⟩
end Go.Vm

namespace Go.Proofs.YtdhdaadoehbopaaGreatDoor
open Go.Vm Go.ChangeShapes Go.WideShapes Go.ChangeAt Go.RowKit
set_option maxHeartbeats 8000000 in
set_option maxRecDepth 100000 in
theorem cueSpoilt_lifted (os : Os) (started : os.Started) (H : Type) (enc : TypeId × Value → H) :
  ReturnsInHanded {} Tryz.checked os 26 .any (fun w args => (Rows.cueSpoiltSpec.pre enc Tryz.prog Tryz.f26 Rows.cueSpoiltRow.domain false w args ∧ laidMetH Tryz.prog Rows.cueSpoiltRow.laid w) ∧ sizedMet enc Tryz.prog Tryz.f26 (OpenSpec.ofChange Rows.cueSpoiltSpec) false w args)
   (Rows.cueSpoiltSpec.post enc Tryz.prog Tryz.f26 false true false false) := by
 refine returnsInHanded_of_change_and (C := Tryz.checked) (X := fun w _ => laidMetH Tryz.prog Rows.cueSpoiltRow.laid w) (fun _ _ _ hh h => h.of_heap hh) own started (by kernel_rfl) Tryz.func26
  (ChangeSpec.witness_shaped (enc := enc) (C := Tryz.checked) (os := os) (X := fun w _ => laidMetH Tryz.prog Rows.cueSpoiltRow.laid w) false (World.laidAll Tryz.prog os Rows.cueSpoiltRow.laid) #[.agg #[.int .i64 0, .int .i64 0, .slice none 0 0], .int .i64 0, .int .i64 0] 8 (World.laidAll_os _ _ _)
   (World.shaped_of_ZipB (by kernel_rfl) (by kernel_rfl)) (by kernel_rfl) (by kernel_rfl) (by kernel_rfl)
   (by rw [MakeChecks.laidMetH_plain _ _ _ (by kernel_rfl)]; exact laidMet_laidAll _ (by kernel_rfl) (by kernel_rfl))) ?_
 intro W base args ds gs before hval0 hW _ _ _ _
 have hval : ∀ (j : Nat) t v, Tryz.f26.params[j]? = some t → args[j]? = some v → Value.okWide Tryz.prog W .any base t v := hval0
 have hW' := hW
 obtain ⟨p, q, hA0, hV, rfl, _, _⟩ := hW
 have hA : DataW.TrodAll enc Tryz.prog W 0 (fun _ => true) true Tryz.f26.params.toList args.toList ds p := hA0
 rw [Tryz.params26] at hA hval
 obtain ⟨v0, v1, v2, d0, d1, d2, p0, p1, p2, rfl, rfl, rfl, h0, h1, h2⟩ := trodAll_three hA
 obtain ⟨rfl, rfl⟩ := trodVars_none hV
 obtain ⟨x0, r0, _⟩ := arg_book (hval 0 24 v0 rfl rfl) h0
 obtain ⟨x1, r1, _⟩ := arg_int (hval 1 3 v1 rfl rfl) h1
 obtain ⟨x2, r2, _⟩ := arg_int (hval 2 3 v2 rfl rfl) h2
 refine (law_calls (c_cueSpoilt x0 x1 x2) (by simp only [VRels, and_true]; exact ⟨r0, r1, r2⟩)).mono ?_
 rintro e W' ⟨rfl, hk⟩
 exact ⟨_, rfl, law_post laidOut (by kernel_rfl) (by kernel_rfl) (by kernel_rfl) hW' rfl rfl hk⟩
theorem cueSpoilt_named : Tryz.pinned.checked.prog.funcNamed Rows.cueSpoiltRow.func = some 26 := by kernel_rfl
theorem cueSpoilt_inst : Tryz.f26.isInstance Tryz.pinned.checked.prog Rows.cueSpoiltRow.origin Rows.cueSpoiltRow.targs := of_decide_eq_true (by kernel_rfl)
theorem cueSpoilt_wrap : Tryz.f26.isWrapper Tryz.pinned.checked.prog Rows.cueSpoiltRow.wrapper Rows.cueSpoiltRow.mainSum := by unfold Func.isWrapper; first | (rw [if_pos (by decide +kernel)]; kernel_rfl) | (rw [if_neg (by decide +kernel)]; exact ⟨rfl, rfl⟩)
set_option maxHeartbeats 8000000 in
theorem cueSpoilt_closed : joinedFacts Tryz.pinned.checked.prog 26 Tryz.f26 Rows.cueSpoiltSpec Rows.cueSpoiltRow = true := by
 unfold joinedFacts
 refine and_t (and_t (and_t (and_t (and_t (and_t (and_t (and_t (and_t (and_t (and_t (and_t (and_t (and_t (and_t (and_t (and_t (and_t (and_t (and_t (and_t (and_t (and_t (and_t (and_t (and_t (and_t (and_t (and_t (and_t (and_t ?_ ?_) ?_) ?_) ?_) ?_) ?_) ?_) ?_) ?_) ?_) ?_) ?_) ?_) ?_) ?_) ?_) ?_) ?_) ?_) ?_) ?_) ?_) ?_) ?_) ?_) ?_) ?_) ?_) ?_) ?_) ?_
 ·as_aux_lemma => kernel_rfl
 ·as_aux_lemma => kernel_rfl
 ·as_aux_lemma => kernel_rfl
 ·as_aux_lemma => kernel_rfl
 ·as_aux_lemma => kernel_rfl
 ·as_aux_lemma => kernel_rfl
 ·as_aux_lemma => kernel_rfl
 ·as_aux_lemma => kernel_rfl
 ·as_aux_lemma => kernel_rfl
 ·as_aux_lemma => kernel_rfl
 ·as_aux_lemma => kernel_rfl
 ·as_aux_lemma => kernel_rfl
 ·as_aux_lemma => kernel_rfl
 ·as_aux_lemma => kernel_rfl
 ·as_aux_lemma => kernel_rfl
 ·as_aux_lemma => kernel_rfl
 ·as_aux_lemma => kernel_rfl
 ·as_aux_lemma => kernel_rfl
 ·as_aux_lemma => kernel_rfl
 ·as_aux_lemma => kernel_rfl
 ·as_aux_lemma => kernel_rfl
 ·as_aux_lemma => kernel_rfl
 ·as_aux_lemma => kernel_rfl
 ·as_aux_lemma => kernel_rfl
 ·as_aux_lemma => kernel_rfl
 ·as_aux_lemma => kernel_rfl
 ·as_aux_lemma => kernel_rfl
 ·as_aux_lemma => kernel_rfl
 ·as_aux_lemma => kernel_rfl
 ·as_aux_lemma => kernel_rfl
 ·as_aux_lemma => kernel_rfl
 ·as_aux_lemma => kernel_rfl
theorem cueSpoilt_holds : Rows.CueSpoiltSaid :=
 OpenClaim.holds_of_wide 26 Tryz.f26 rfl rfl rfl rfl rfl rfl rfl ⟨rfl, rfl, rfl, rfl, rfl⟩ rfl rfl rfl rfl rfl cueSpoilt_named Tryz.func26 cueSpoilt_closed cueSpoilt_inst cueSpoilt_wrap
  (fun os started H enc _ => cueSpoilt_lifted os started H enc)
set_option maxHeartbeats 8000000 in
theorem cueSpoilt_card : Rows.CueSpoiltCardSaid :=
 Claim7.holds_tied_plain_at .later [] [.data, .data, .data, .data, .pinned] true (true, "d200c2f9484011b2fecf6d987098eee6f4d6857560912b686a09e1298a9b974d") true cueSpoilt_holds (fun _ h => by cases h) (by as_aux_lemma => kernel_rfl) (fun _ h => by cases h) cueSpoilt_row_tie rfl ⟨rfl, rfl⟩ (by as_aux_lemma => kernel_rfl) rfl
  (fun f fn hf hfn => by
   obtain rfl : f = 26 := Option.some.inj (cueSpoilt_named.symm.trans hf) |>.symm
   obtain rfl : fn = Tryz.f26 := (Option.some.inj (Tryz.func26.symm.trans hfn)).symm
   exact ⟨by as_aux_lemma => kernel_rfl, fun j t ht => by
    rw [Tryz.params26] at ht
    have hm : t ∈ [24, 3, 3] := by simpa using Array.mem_of_getElem? ht
    have hall : ([24, 3, 3].all fun u => !Tryz.prog.wantsStandIn u) = true := by kernel_rfl
    exact (show Tryz.prog.wantsStandIn t = false by simpa using List.all_eq_true.1 hall t hm)⟩)
  (by as_aux_lemma => kernel_rfl)
end Go.Proofs.YtdhdaadoehbopaaGreatDoor
