/-
  Texts of the proof, part 4: the machine, contracts of functions, plain laws. (Own work.)
-/
import Derived.Test.YteefbiehcfmoeaaGreatDoorG03DalangParses
import Derived.Maps.Keyed
import Derived.WideKeyArr

namespace Go.Vm
variable [Outer]
variable {P : Program}
def tshape (P : Program) (k : TypeId) : Option KeyShape :=
 match P.underlying k with
 | some (.int .i64) => some .int
 | some (.array n e) => match P.underlying e with
  | some (.int .i64) => if P.cellsOf e = 1 ∧ P.cellsOf k = n ∧ 0 < P.types.size then some (.arr n) else none
  | _ => none
 | _ => none
omit [Outer] in
theorem isI64_eq {v : Value} (h : isI64 v = true) : ∃ n, v = .int .i64 n ∧ (Lit.int .i64 n).wf = true := by
 unfold isI64 at h
 split at h
 ·rename_i n
  simp only [Bool.and_eq_true, decide_eq_true_eq] at h
  refine ⟨n, rfl, ?_⟩
  have h1 : IntKind.i64.min = -9223372036854775808 := by decide
  have h2 : IntKind.i64.max = 9223372036854775807 := by decide
  simp [Lit.wf, h1, h2, h.1, h.2]
 ·cases h
omit [Outer] in
theorem keyLits_row {e : TypeId} {d : Nat} (hu : P.underlying e = some (.int .i64)) : ∀ (cs : List Value), cs.all isI64 = true →
  ∃ ls, ((List.range cs.length).mapM fun i => P.keyLits (d + 1) e ((cs.drop (i * 1)).take 1)) = some ls
 | [], _ => ⟨[], rfl⟩
 | c :: cs, h => by
  simp only [List.all_cons, Bool.and_eq_true] at h
  obtain ⟨n, rfl, hw⟩ := isI64_eq h.1
  obtain ⟨ls, hls⟩ := keyLits_row (d := d) hu cs h.2
  refine ⟨[.int .i64 n] :: ls, ?_⟩
  rw [List.length_cons, List.range_succ_eq_map, List.mapM_cons, List.mapM_map]
  have e1 : P.keyLits (d + 1) e (((Value.int .i64 n :: cs).drop (0 * 1)).take 1) = some [.int .i64 n] := by
   simp [Program.keyLits, hu, hw]
  have e2 : (fun i => P.keyLits (d + 1) e (((Value.int .i64 n :: cs).drop (i.succ * 1)).take 1)) = fun i => P.keyLits (d + 1) e ((cs.drop (i * 1)).take 1) := by
   funext i; simp
  have e3 : ((fun i => P.keyLits (d + 1) e (((Value.int .i64 n :: cs).drop (i * 1)).take 1)) ∘ Nat.succ) = fun i => P.keyLits (d + 1) e ((cs.drop (i * 1)).take 1) := e2
  simp only [e1, e3, hls]
  rfl
omit [Outer] in
theorem tshape_keyed {k : TypeId} {sh : KeyShape} (h : tshape P k = some sh) : Maps.Keyed P k ∧ ∀ v, shOk sh v = true → ∃ l, keyOf P k v = some l := by
 unfold tshape at h
 split at h
 ·rename_i hu
  cases h
  refine ⟨Maps.int_keyed hu, fun v hv => ?_⟩
  obtain ⟨n, rfl, hw⟩ := isI64_eq hv
  exact ⟨_, Maps.keyOf_int_mk hu hw⟩
 ·rename_i n e hu
  split at h
  ·rename_i hue
   split at h
   ·rename_i hg
    cases h
    obtain ⟨g1, g2, g3⟩ := hg
    have A : WideMaps.ArrKey P k e n := ⟨hu, by simp [Program.plainKey, hue], g1, g2⟩
    refine ⟨Maps.Keyed.of_law A.law, fun v hv => ?_⟩
    cases v <;> simp only [shOk, Bool.false_eq_true] at hv
    rename_i C
    simp only [Bool.and_eq_true, beq_iff_eq] at hv
    obtain ⟨m, hm⟩ : ∃ m, P.types.size = m + 1 := ⟨P.types.size - 1, by omega⟩
    have hkt := A.keyType ⟨m, hm⟩
    obtain ⟨ls, hls⟩ := keyLits_row (P := P) (d := m) hue C.toList hv.2
    have hl : P.keyLits (P.types.size + 1) k C.toList = some ls.flatten := by
     rw [hm]
     unfold Program.keyLits
     rw [hu]
     simp only [g1, g2, hv.1, if_true]
     rw [← hv.1, hls]
     rfl
    have hfm : (Value.agg C).formed P k = true := by
     simp only [Value.formed, hu, beq_iff_eq]
     rw [g2, ← hv.1]
     simp
    exact ⟨.string (keyBytes ls.flatten), by simp only [keyOf, hu, hkt, hfm, Value.cells, hl, Bool.and_self, if_true, Option.map_some]⟩
   ·cases h
  ·cases h
 ·cases h
def veqs : List Value → List Value → Bool
 | [], [] => true
 | .int _ a :: x, .int _ b :: y => decide (a = b) && veqs x y
 | _, _ => false
def veq : Value → Value → Bool
 | .int _ a, .int _ b => decide (a = b)
 | .agg a, .agg b => veqs a.toList b.toList
 | _, _ => false
omit [Outer] in
theorem veqs_eq : ∀ {x y : List Value}, x.all isI64 = true → y.all isI64 = true → (veqs x y = true ↔ x = y)
 | [], [], _, _ => by simp [veqs]
 | [], b :: y, _, _ => by simp [veqs]
 | a :: x, [], _, _ => by cases a <;> simp [veqs]
 | a :: x, b :: y, hx, hy => by
  simp only [List.all_cons, Bool.and_eq_true] at hx hy
  obtain ⟨n, rfl, _⟩ := isI64_eq hx.1
  obtain ⟨m, rfl, _⟩ := isI64_eq hy.1
  simp [veqs, veqs_eq hx.2 hy.2]
omit [Outer] in
theorem veq_eq {sh : KeyShape} {x y : Value} (hx : shOk sh x = true) (hy : shOk sh y = true) : veq x y = true ↔ x = y := by
 cases sh with
 | int =>
  obtain ⟨n, rfl, _⟩ := isI64_eq hx
  obtain ⟨m, rfl, _⟩ := isI64_eq hy
  simp [veq]
 | arr n =>
  cases x <;> simp only [shOk, Bool.false_eq_true] at hx
  cases y <;> simp only [shOk, Bool.false_eq_true] at hy
  rename_i A B
  simp only [Bool.and_eq_true] at hx hy
  simp only [veq, veqs_eq hx.2 hy.2]
  exact ⟨fun h => by rw [Array.toList_inj.1 h], fun h => by cases h; rfl⟩
def mlook (es : List (Value × AV)) (k : Value) : Option AV := (es.find? fun p => veq p.1 k).map (·.2)
def mset : List (Value × AV) → Value → AV → List (Value × AV)
 | [], k, v => [(k, v)]
 | p :: es, k, v => if veq p.1 k then (p.1, v) :: es else p :: mset es k v
def concs : List AV → Option (List Value)
 | [] => some []
 | .lit v :: r => (concs r).map (v :: ·)
 | _ => none
def conc : AV → Option Value
 | .lit v => some v
 | .agg cells => (concs cells).map fun l => .agg l.toArray
 | _ => none
theorem concs_eq {S : Sit} : ∀ {as : List AV} {l cs : List Value}, concs as = some l → VRels S as cs → cs = l
 | [], l, cs, h, x => by
  simp only [concs, Option.some.injEq] at h; subst h
  cases cs with
  | nil => rfl
  | cons => simp [VRels] at x
 | a :: as, l, cs, h, x => by
  cases cs with
  | nil => simp [VRels] at x
  | cons c cs =>
   simp only [VRels] at x
   cases a with
   | lit v =>
    simp only [concs] at h
    cases hr : concs as with
    | none => simp [hr] at h
    | some r =>
     simp only [hr, Option.map_some, Option.some.injEq] at h
     subst h
     have := x.1
     simp only [VRel] at this
     rw [this, concs_eq hr x.2]
   | _ => simp [concs] at h
theorem conc_eq {S : Sit} {a : AV} {v c : Value} (h : conc a = some v) (x : VRel S a c) : c = v := by
 cases a with
 | lit u => simp only [conc, Option.some.injEq] at h; subst h; simpa only [VRel] using x
 | agg cells =>
  simp only [conc] at h
  cases hr : concs cells with
  | none => simp [hr] at h
  | some l =>
   simp only [hr, Option.map_some, Option.some.injEq] at h
   subst h
   simp only [VRel] at x
   obtain ⟨C, rfl, hc⟩ := x
   rw [← concs_eq hr hc]
 | _ => simp [conc] at h
def tmap (P : Program) (t : TypeId) : Option (KeyShape × TypeId × TypeId) :=
 match P.underlying t with
 | some (.map k e) => (tshape P k).map fun sh => (sh, k, e)
 | _ => none
omit [Outer] in
theorem tmap_eq {t k e : TypeId} {sh : KeyShape} (h : tmap P t = some (sh, k, e)) : P.underlying t = some (.map k e) ∧ tshape P k = some sh := by
 unfold tmap at h
 split at h
 ·rename_i k' e' hu
  cases hs : tshape P k' with
  | none => simp [hs] at h
  | some sh' => simp only [hs, Option.map_some, Option.some.injEq, Prod.mk.injEq] at h; obtain ⟨rfl, rfl, rfl⟩ := h; exact ⟨hu, hs⟩
 ·cases h
def KeyShape.same : KeyShape → KeyShape → Bool
 | .int, .int => true
 | .arr n, .arr m => n == m
 | _, _ => false
omit [Outer] in
theorem KeyShape.same_eq {a b : KeyShape} (h : a.same b = true) : a = b := by
 cases a <;> cases b <;> simp_all [KeyShape.same]
omit [Outer] in
theorem nodup_inj {α : Type} {x : α} : ∀ {l : List α} {i j : Nat}, l.Nodup → l[i]? = some x → l[j]? = some x → i = j
 | [], _, _, _, h, _ => by simp at h
 | a :: l, 0, 0, _, _, _ => rfl
 | a :: l, 0, j + 1, hn, hi, hj => by
  simp at hi hj; subst hi
  exact absurd (List.mem_of_getElem? hj) (List.nodup_cons.1 hn).1
 | a :: l, i + 1, 0, hn, hi, hj => by
  simp at hi hj; subst hj
  exact absurd (List.mem_of_getElem? hi) (List.nodup_cons.1 hn).1
 | a :: l, i + 1, j + 1, hn, hi, hj => by
  simp at hi hj
  rw [nodup_inj (List.nodup_cons.1 hn).2 hi hj]
theorem MRel.find {S : Sit} {sh : KeyShape} {es : List (Value × AV)} {E : Array MapEntry} {clock : Nat} {k : TypeId} (hM : MRel S sh es E clock) (hk : tshape P k = some sh) {v : Value}
  (hv : shOk sh v = true) (w : World) :
  (mlook es v = none ∧ (Instr.findKey k v E.toList).run P w = .ok none w ∧ ∀ p ∈ es, p.1 ≠ v) ∨
  ∃ a j c, ∃ e : MapEntry, mlook es v = some a ∧ (Instr.findKey k v E.toList).run P w = .ok (some (j, c)) w ∧ VRel S a c ∧ E.toList[j]? = some e ∧ e.key = v ∧ e.val = c := by
 obtain ⟨hK, hkey⟩ := tshape_keyed hk
 obtain ⟨lv, hlv⟩ := hkey v hv
 obtain ⟨es2, hp, h1, h2⟩ := hM.ents
 have hkeys2 : ∀ e ∈ E.toList, shOk sh e.key = true := by
  intro e he
  have : e.key ∈ es2.map (·.1) := by rw [← h1]; exact List.mem_map_of_mem he
  obtain ⟨p, hp2, hpe⟩ := List.mem_map.1 this
  rw [← hpe]; exact hM.keys p (hp.mem_iff.1 hp2)
 have hes : ∀ e ∈ E.toList, ∃ l, keyOf P k e.key = some l := fun e he => hkey _ (hkeys2 e he)
 have hlen : es2.length = E.toList.length := by have := congrArg List.length h1; simpa using this.symm
 -- the abstract entry at a concrete one's place
 have hat : ∀ (j : Nat) (e : MapEntry), E.toList[j]? = some e → ∃ p : Value × AV, es2[j]? = some p ∧ p.1 = e.key ∧ VRel S p.2 e.val := by
  intro j e he
  have hj : j < es2.length := by rw [hlen]; exact (List.getElem?_eq_some_iff.1 he).1
  have g1 : (E.toList.map (·.key))[j]? = some e.key := by simp [he]
  rw [h1] at g1
  have g2 : (es2.map (·.2))[j]? = some es2[j].2 := by simp [hj]
  obtain ⟨c, hc, hr⟩ := h2.get g2
  rw [List.getElem?_map, he] at hc
  simp only [Option.map_some, Option.some.injEq] at hc
  subst hc
  refine ⟨es2[j], by simp [hj], ?_, hr⟩
  simpa [hj] using g1
 have hnd2 : (es2.map (·.1)).Nodup := (hp.map _).nodup_iff.2 hM.nodup
 rcases hK.find w hlv E.toList hes with ⟨hn, hne⟩ | ⟨j, e, hf, hj, hek⟩
 ·left
  have hall : ∀ p ∈ es, p.1 ≠ v := by
   intro p hpm hpv
   have : p.1 ∈ es2.map (·.1) := List.mem_map_of_mem (hp.mem_iff.2 hpm)
   rw [← h1] at this
   obtain ⟨e, he, hee⟩ := List.mem_map.1 this
   exact hne e he (hee.trans hpv)
  refine ⟨?_, hn, hall⟩
  unfold mlook
  rw [List.find?_eq_none.2]
  ·rfl
  ·intro p hpm hveq
   exact hall p hpm ((veq_eq (hM.keys p hpm) hv).1 hveq)
 ·right
  obtain ⟨p, hpj, hpk, hpr⟩ := hat j e hj
  have hpm : p ∈ es := hp.mem_iff.1 (List.mem_of_getElem? hpj)
  have hfind : ∃ q, es.find? (fun p => veq p.1 v) = some q := by
   cases hq : es.find? (fun p => veq p.1 v) with
   | some q => exact ⟨q, rfl⟩
   | none =>
    have := List.find?_eq_none.1 hq p hpm
    exact absurd ((veq_eq (hM.keys p hpm) hv).2 (hpk.trans hek)) this
  obtain ⟨q, hq⟩ := hfind
  have hqm : q ∈ es := List.mem_of_find?_eq_some hq
  have hqv : q.1 = v := (veq_eq (hM.keys q hqm) hv).1 (by simpa using List.find?_some hq)
  have hpq : p = q := by
   have hnd := hM.nodup
   have hi1 := List.mem_iff_getElem.1 hpm
   have hi2 := List.mem_iff_getElem.1 hqm
   obtain ⟨a, ha, rfl⟩ := hi1
   obtain ⟨b, hb, rfl⟩ := hi2
   have : a = b := nodup_inj (x := v) hnd (by simp [ha, hpk, hek]) (by simp [hb, hqv])
   subst this; rfl
  subst hpq
  exact ⟨p.2, j, e.val, e, by simp [mlook, hq], hf, hpr, hj, hek, rfl⟩
def lookupOp (P : Program) (H : List Blk) (t : TypeId) (x k : AV) (ok : Bool) : Option AV :=
 match tmap P t, x, conc k with
 | some (sh, _, e), .mp id, some v =>
  match H[id]?, tz P e with
  | some (.map sh' es), some z =>
   if sh.same sh' = true ∧ shOk sh v = true then
    match mlook es v with
    | some a => some (if ok = true then .tup [a, .lit (.bool true)] else a)
    | none => some (if ok = true then .tup [.lit z, .lit (.bool false)] else .lit z)
   else none
  | _, _ => none
 | _, _, _ => none
theorem lookupOp_sound {S : Sit} (hR : Rel S) {t : TypeId} {x k a : AV} {c ck : Value} {ok : Bool} (h : lookupOp P S.H t x k ok = some a) (hx : VRel S x c) (hk : VRel S k ck) :
    ∃ r, (Instr.lookup t c ck ok).run P S.w = .ok r S.w ∧ VRel S a r := by
  unfold lookupOp at h
  split at h
  case h_2 => cases h
  rename_i sh kt e id v htm hcv
  split at h
  case h_2 => cases h
  rename_i sh' es z hB hz
  split at h
  case isFalse => cases h
  rename_i hg
  obtain ⟨hsame, hv⟩ := hg
  have := KeyShape.same_eq hsame
  subst this
  have hcv' := conc_eq hcv hk
  subst hcv'
  obtain ⟨hu, hsh⟩ := tmap_eq htm
  simp only [VRel] at hx
  obtain ⟨b, wm, hi, _, rfl⟩ := hx
  obtain ⟨B, hB', hrel⟩ := hR.blk id b wm hi
  rw [hB] at hB'; cases hB'
  obtain ⟨E, clock, hE, hM⟩ := hrel
  obtain ⟨hK, hkey⟩ := tshape_keyed hsh
  obtain ⟨lv, hlv⟩ := hkey ck hv
  have hget : (getObj b).run P S.w = .ok (.map E clock) S.w := by
    simp only [getObj, Sem.run, hE]
  have hrun : ∀ r, (Instr.findKey kt ck E.toList).run P S.w = .ok r S.w → (Instr.lookup t (.map (some b)) ck ok).run P S.w =
      .ok (if ok then .tuple #[(match r with | some (_, u) => u | none => z), .bool r.isSome] else (match r with | some (_, u) => u | none => z)) S.w := by
    intro r hr
    unfold Instr.lookup
    rw [Sem.run_bind, run_underlying hu]
    simp only [Result.andThen_ok]
    rw [Sem.run_bind, hget]
    simp only [Result.andThen_ok]
    rw [Sem.run_bind]
    simp only [Result.andThen_ok, Sem.run_pure]
    rw [Sem.run_bind, hK.check S.w E.isEmpty hlv]
    simp only [Result.andThen_ok]
    rw [Sem.run_bind, hr]
    simp only [Result.andThen_ok]
    cases r with
    | none =>
      simp only []
      rw [Sem.run_bind, run_tz hz]
      cases ok <;> rfl
    | some p => cases ok <;> rfl
  rcases hM.find hsh hv S.w with ⟨hl, hf, _⟩ | ⟨a', j, u, e', hl, hf, hr, _, _, _⟩
  · simp only [hl] at h
    refine ⟨_, hrun none hf, ?_⟩
    cases ok <;> simp only [if_true, Bool.false_eq_true, if_false, Option.some.injEq] at h <;> subst h <;> simp [VRel, VRels]
  · simp only [hl] at h
    refine ⟨_, hrun (some (j, u)) hf, ?_⟩
    cases ok <;> simp only [if_true, Bool.false_eq_true, if_false, Option.some.injEq] at h <;> subst h
    · exact hr
    · simp [VRel, VRels, hr]
omit [Outer] in
theorem mset_new {es : List (Value × AV)} {v : Value} {a : AV} (h : ∀ p ∈ es, veq p.1 v = false) : mset es v a = es ++ [(v, a)] := by
 induction es with
 | nil => rfl
 | cons p es ih => simp [mset, h p (by simp), ih fun q hq => h q (by simp [hq])]
omit [Outer] in
theorem mset_keys {sh : KeyShape} {es : List (Value × AV)} {v : Value} {a : AV} (hk : ∀ p ∈ es, shOk sh p.1 = true) (hv : shOk sh v = true) (h : ∃ p ∈ es, p.1 = v) :
  (mset es v a).map (·.1) = es.map (·.1) := by
 induction es with
 | nil => obtain ⟨p, hp, _⟩ := h; simp at hp
 | cons p es ih =>
  by_cases he : veq p.1 v = true
  ·simp [mset, he]
  ·simp only [mset, he, Bool.false_eq_true, if_false, List.map_cons]
   rw [ih (fun q hq => hk q (by simp [hq]))]
   obtain ⟨q, hq, hqv⟩ := h
   rcases List.mem_cons.1 hq with rfl | hq
   ·exact absurd ((veq_eq (hk q (by simp)) hv).2 hqv) he
   ·exact ⟨q, hq, hqv⟩
omit [Outer] in
theorem mset_mem {sh : KeyShape} {es : List (Value × AV)} {v : Value} {a : AV} (hk : ∀ p ∈ es, shOk sh p.1 = true) (hv : shOk sh v = true) :
  ∀ p ∈ mset es v a, shOk sh p.1 = true := by
 induction es with
 | nil => intro p hp; simp [mset] at hp; subst hp; exact hv
 | cons q es ih =>
  intro p hp
  simp only [mset] at hp
  split at hp
  ·rcases List.mem_cons.1 hp with rfl | hp
   ·exact hk q (by simp)
   ·exact hk p (by simp [hp])
  ·rcases List.mem_cons.1 hp with rfl | hp
   ·exact hk p (by simp)
   ·exact ih (fun r hr => hk r (by simp [hr])) p hp
omit [Outer] in
theorem mset_perm {sh : KeyShape} {es es2 : List (Value × AV)} {v : Value} {a : AV} (hk : ∀ p ∈ es, shOk sh p.1 = true) (hv : shOk sh v = true) (hn : (es.map (·.1)).Nodup)
  (hp : es2.Perm es) {j : Nat} {q : Value × AV} (hj : es2[j]? = some q) (hq : q.1 = v) : (es2.set j (v, a)).Perm (mset es v a) := by
 -- both are the list of the other entries, and the new one
 have key : ∀ (l : List (Value × AV)), (∀ p ∈ l, shOk sh p.1 = true) → (l.map (·.1)).Nodup → (∃ p ∈ l, p.1 = v) → (mset l v a).Perm ((v, a) :: l.filter fun p => !veq p.1 v) := by
  intro l
  induction l with
  | nil => intro _ _ h; obtain ⟨p, hp, _⟩ := h; simp at hp
  | cons p l ih =>
   intro hk hn h
   simp only [List.map_cons, List.nodup_cons] at hn
   by_cases he : veq p.1 v = true
   ·have hpv := (veq_eq (hk p (by simp)) hv).1 he
    simp only [mset, he, if_true, List.filter_cons, Bool.not_true, Bool.false_eq_true, if_false]
    rw [List.filter_eq_self.2]
    ·rw [hpv]
    ·intro r hr
     have : r.1 ≠ v := fun e => hn.1 (by rw [hpv, ← e]; exact List.mem_map_of_mem hr)
     simp only [Bool.not_eq_true', Bool.eq_false_iff]
     exact fun h => this ((veq_eq (hk r (by simp [hr])) hv).1 h)
   ·simp only [mset, he, Bool.false_eq_true, if_false, List.filter_cons, Bool.not_false, if_true]
    refine ((ih (fun r hr => hk r (by simp [hr])) hn.2 ?_).cons p).trans (List.Perm.swap ..)
    obtain ⟨q, hq, hqv⟩ := h
    rcases List.mem_cons.1 hq with rfl | hq
    ·exact absurd ((veq_eq (hk q (by simp)) hv).2 hqv) he
    ·exact ⟨q, hq, hqv⟩
 have hk2 : ∀ p ∈ es2, shOk sh p.1 = true := fun p h => hk p (hp.mem_iff.1 h)
 have hn2 : (es2.map (·.1)).Nodup := (hp.map _).nodup_iff.2 hn
 have hmem2 : ∃ p ∈ es2, p.1 = v := ⟨q, List.mem_of_getElem? hj, hq⟩
 have hmem : ∃ p ∈ es, p.1 = v := ⟨q, hp.mem_iff.1 (List.mem_of_getElem? hj), hq⟩
 have e2 : es2.set j (v, a) = mset es2 v a := by
  clear hp hmem hmem2
  induction es2 generalizing j with
  | nil => simp at hj
  | cons p l ih =>
   simp only [List.map_cons, List.nodup_cons] at hn2
   cases j with
   | zero =>
    simp at hj; subst hj
    have : veq p.1 v = true := (veq_eq (hk2 p (by simp)) hv).2 hq
    rw [List.set_cons_zero]; unfold mset; rw [if_pos this, hq]
   | succ j =>
    simp at hj
    have hne : veq p.1 v = false := by
     rw [Bool.eq_false_iff]
     intro h
     have := (veq_eq (hk2 p (by simp)) hv).1 h
     exact hn2.1 (by rw [this, ← hq]; exact List.mem_map_of_mem (List.mem_of_getElem? hj))
    simp [mset, hne, ih hj (fun r hr => hk2 r (by simp [hr])) hn2.2]
 rw [e2]
 exact ((key es2 hk2 hn2 hmem2).trans ((hp.filter _).cons _)).trans (key es hk hn hmem).symm
def updateOp (P : Program) (H : List Blk) (t : TypeId) (x k v : AV) : Option (List Blk) :=
 match tmap P t, x, conc k with
 | some (sh, _, _), .mp id, some u =>
  match H[id]? with
  | some (.map sh' es) => if sh.same sh' = true ∧ shOk sh u = true then some (H.set id (.map sh' (mset es u v))) else none
  | _ => none
 | _, _, _ => none
theorem VRels.set {S : Sit} : ∀ {as : List AV} {cs : List Value} {j : Nat} {a : AV} {c : Value}, VRels S as cs → VRel S a c → VRels S (as.set j a) (cs.set j c)
 | [], [], _, _, _, _, _ => by simp [VRels]
 | [], _ :: _, _, _, _, x, _ => by simp [VRels] at x
 | _ :: _, [], _, _, _, x, _ => by simp [VRels] at x
 | _ :: _, _ :: _, 0, _, _, x, h => by simp only [VRels] at x; exact ⟨h, x.2⟩
 | _ :: _, _ :: _, j + 1, _, _, x, h => by simp only [VRels] at x; exact ⟨x.1, VRels.set x.2 h⟩
theorem updateOp_sound {S : Sit} (hR : Rel S) {t : TypeId} {x k v : AV} {c ck cv : Value} {H' : List Blk} (h : updateOp P S.H t x k v = some H') (hx : VRel S x c) (hk : VRel S k ck)
    (hv : VRel S v cv) : ∃ w', (Instr.mapUpdate t c ck cv).run P S.w = .ok () w' ∧ Rel ⟨H', S.ι, w'⟩ ∧ Ev S ⟨H', S.ι, w'⟩ := by
  unfold updateOp at h
  split at h
  case h_2 => cases h
  rename_i sh kt e id u htm hcu
  split at h
  case h_2 => cases h
  rename_i sh' es hB
  split at h
  case isFalse => cases h
  rename_i hg
  obtain ⟨hsame, hok⟩ := hg
  have := KeyShape.same_eq hsame
  subst this
  cases h
  have hcu' := conc_eq hcu hk
  subst hcu'
  obtain ⟨hu, hsh⟩ := tmap_eq htm
  simp only [VRel] at hx
  obtain ⟨b, wm, hi, hnr, rfl⟩ := hx
  obtain ⟨B, hB', hrel⟩ := hR.blk id b wm hi
  rw [hB] at hB'; cases hB'
  obtain ⟨E, clock, hE, hM⟩ := hrel
  obtain ⟨hK, hkey⟩ := tshape_keyed hsh
  obtain ⟨lv, hlv⟩ := hkey ck hok
  have hget : (getObj b).run P S.w = .ok (.map E clock) S.w := by
    simp only [getObj, Sem.run, hE]
  have hbs : b < S.w.heap.size := (Array.getElem?_eq_some_iff.1 hE).1
  have hset : ∀ o, (setObj b o).run P S.w = .ok () { S.w with heap := S.w.heap.setIfInBounds b o } := by
    intro o
    simp only [setObj, Sem.run, hE]
  have hother : ∀ o b', b' ≠ b → ({ S.w with heap := S.w.heap.setIfInBounds b o } : World).heap[b']? = S.w.heap[b']? := by
    intro o b' hne
    simp [Ne.symm hne]
  have hhere : ∀ o, ({ S.w with heap := S.w.heap.setIfInBounds b o } : World).heap[b]? = some o := by
    intro o; simp [hbs]
  obtain ⟨es2, hp, h1, h2⟩ := hM.ents
  have hstart : ∀ r, (Instr.findKey kt ck E.toList).run P S.w = .ok r S.w → (Instr.mapUpdate t (.map (some b)) ck cv).run P S.w =
      (match r with
        | some (i, _) => (do
            let key ← Instr.keyThatStays (((E[i]?).map fun e : MapEntry => e.key).getD ck) ck
            setObj b (.map (E.modify i fun e => { e with key, val := cv }) clock) : Sem Unit)
        | none => setObj b (.map (E.push { key := ck, val := cv, born := clock }) (clock + 1))).run P S.w := by
    intro r hr
    unfold Instr.mapUpdate
    rw [Sem.run_bind, run_underlying hu]
    simp only [Result.andThen_ok]
    rw [Sem.run_bind, hget]
    simp only [Result.andThen_ok]
    rw [Sem.run_bind, hK.check S.w false hlv]
    simp only [Result.andThen_ok]
    rw [Sem.run_bind, hr]
    cases r <;> rfl
  rcases hM.find hsh hok S.w with ⟨hl, hf, hall⟩ | ⟨a', j, c', e', hl, hf, hr, hj, hek, hev'⟩
  · have hmset : mset es ck v = es ++ [(ck, v)] := mset_new fun p hp' => by
      rw [Bool.eq_false_iff]; exact fun hh => hall p hp' ((veq_eq (hM.keys p hp') hok).1 hh)
    refine ⟨_, by rw [hstart _ hf]; exact hset _, ?_, Ev.write hR hi hB rfl rfl (hother _)⟩
    refine Rel.write hR hi hB rfl rfl (hother _) ⟨_, _, hhere _, ?_⟩
    have hev := Ev.write hR (B' := .map sh (mset es ck v)) hi hB rfl rfl (hother (.map (E.push { key := ck, val := cv, born := clock }) (clock + 1)))
    refine ⟨⟨es2 ++ [(ck, v)], by rw [hmset]; exact hp.append_right _, by simp [h1], ?_⟩, mset_mem hM.keys hok, ?_, ?_, ?_⟩
    · simp only [List.map_append, List.map_cons, List.map_nil, Array.toList_push]
      exact VRels.ev hev _ _ (h2.append ⟨hv, by simp [VRels]⟩)
    · rw [hmset, List.map_append, List.nodup_append]
      refine ⟨hM.nodup, by simp, ?_⟩
      intro x hx y hy
      obtain ⟨p, hp', rfl⟩ := List.mem_map.1 hx
      simp at hy; subst hy
      exact hall p hp'
    · simp only [Array.toList_push, List.map_append, List.map_cons, List.map_nil, List.nodup_append]
      refine ⟨hM.stamps, by simp, ?_⟩
      intro x hx y hy
      obtain ⟨p, hp', rfl⟩ := List.mem_map.1 hx
      simp at hy; subst hy
      have := hM.born p hp'
      omega
    · intro e he
      simp only [Array.toList_push, List.mem_append, List.mem_singleton] at he
      rcases he with he | rfl
      · have := hM.born e he; omega
      · simp
  · have hjE : E[j]? = some e' := by simpa using hj
    have hstay : (Instr.keyThatStays (((E[j]?).map (·.key)).getD ck) ck).run P S.w = .ok ck S.w := by
      rw [hjE]; simp only [Option.map_some, Option.getD_some, hek]; exact hK.stays S.w hlv
    have hjlt : j < E.size := (Array.getElem?_eq_some_iff.1 hjE).1
    refine ⟨_, by rw [hstart _ hf]; simp only []; rw [Sem.run_bind, hstay]; simp only [Result.andThen_ok]; exact hset _, ?_, Ev.write hR hi hB rfl rfl (hother _)⟩
    refine Rel.write hR hi hB rfl rfl (hother _) ⟨_, _, hhere _, ?_⟩
    have hev := Ev.write hR (B' := .map sh (mset es ck v)) hi hB rfl rfl (hother (.map (E.modify j fun e => { e with key := ck, val := cv }) clock))
    have hlen : es2.length = E.toList.length := by have := congrArg List.length h1; simpa using this.symm
    have hE' : (E.modify j fun e => { e with key := ck, val := cv }).toList = E.toList.set j { e' with key := ck, val := cv } := by
      apply List.ext_getElem?
      intro i
      rw [Array.getElem?_toList, Array.getElem?_modify, List.getElem?_set]
      by_cases hij : j = i
      · subst hij
        rw [hjE]
        simp [hjlt]
      · simp [hij]
    have hq : ∃ q, es2[j]? = some q ∧ q.1 = ck := by
      have hj2 : j < es2.length := by rw [hlen]; simpa using hjlt
      refine ⟨es2[j], by simp [hj2], ?_⟩
      have : (es2.map (·.1))[j]? = some e'.key := by rw [← h1]; simp [hjE]
      simp [hj2] at this
      rw [this, hek]
    obtain ⟨q, hq1, hq2⟩ := hq
    refine ⟨⟨es2.set j (ck, v), mset_perm hM.keys hok hM.nodup hp hq1 hq2, ?_, ?_⟩, mset_mem hM.keys hok, ?_, ?_, ?_⟩
    · rw [hE', List.map_set, List.map_set, h1]
    · rw [hE', List.map_set, List.map_set]
      exact VRels.ev hev _ _ (h2.set hv)
    · rw [mset_keys hM.keys hok ⟨q, hp.mem_iff.1 (List.mem_of_getElem? hq1), hq2⟩]; exact hM.nodup
    · rw [hE', List.map_set]
      have : (E.toList.map (·.born)).set j e'.born = E.toList.map (·.born) := by
        apply List.ext_getElem?
        intro i
        rw [List.getElem?_set]
        by_cases hij : j = i
        · subst hij
          rw [List.getElem?_map, hj]
          simp [hjlt]
        · simp [hij]
      rw [this]; exact hM.stamps
    · intro e he
      rw [hE'] at he
      rcases List.mem_or_eq_of_mem_set he with he | rfl
      · exact hM.born e he
      · exact hM.born e' (List.mem_of_getElem? hj)
def mdel (es : List (Value × AV)) (v : Value) : List (Value × AV) := es.filter fun p => !veq p.1 v
def deleteOp (P : Program) (H : List Blk) (t : TypeId) (x k : AV) : Option (List Blk) :=
 match tmap P t, x, conc k with
 | some (sh, _, _), .mp id, some u =>
  match H[id]? with
  | some (.map sh' es) => if sh.same sh' = true ∧ shOk sh u = true then some (H.set id (.map sh' (mdel es u))) else none
  | _ => none
 | _, _, _ => none
theorem VRels.eraseIdx {S : Sit} : ∀ {as : List AV} {cs : List Value} {j : Nat}, VRels S as cs → VRels S (as.eraseIdx j) (cs.eraseIdx j)
 | [], [], _, _ => by simp [VRels]
 | [], _ :: _, _, x => by simp [VRels] at x
 | _ :: _, [], _, x => by simp [VRels] at x
 | _ :: _, _ :: _, 0, x => by simp only [VRels] at x; exact x.2
 | _ :: _, _ :: _, j + 1, x => by simp only [VRels] at x; exact ⟨x.1, VRels.eraseIdx (j := j) x.2⟩
omit [Outer] in
theorem mdel_erase {sh : KeyShape} {v : Value} (hv : shOk sh v = true) : ∀ {es : List (Value × AV)} {j : Nat} {q : Value × AV}, (∀ p ∈ es, shOk sh p.1 = true) → (es.map (·.1)).Nodup → es[j]? = some q → q.1 = v → es.eraseIdx j = mdel es v
 | [], _, _, _, _, hj, _ => by simp at hj
 | p :: l, 0, q, hk, hn, hj, hq => by
  simp only [List.map_cons, List.nodup_cons] at hn
  simp at hj; subst hj
  have he : veq p.1 v = true := (veq_eq (hk p (by simp)) hv).2 hq
  show l = mdel (p :: l) v
  unfold mdel
  rw [List.filter_cons, he]
  simp only [Bool.not_true, Bool.false_eq_true, if_false]
  rw [List.filter_eq_self.2]
  intro r hr
  have : r.1 ≠ v := fun e => hn.1 (by rw [hq, ← e]; exact List.mem_map_of_mem hr)
  simp only [Bool.not_eq_true', Bool.eq_false_iff]
  exact fun h => this ((veq_eq (hk r (by simp [hr])) hv).1 h)
 | p :: l, j + 1, q, hk, hn, hj, hq => by
  simp only [List.map_cons, List.nodup_cons] at hn
  simp at hj
  have hne : veq p.1 v = false := by
   rw [Bool.eq_false_iff]
   intro h
   have := (veq_eq (hk p (by simp)) hv).1 h
   exact hn.1 (by rw [this, ← hq]; exact List.mem_map_of_mem (List.mem_of_getElem? hj))
  show p :: l.eraseIdx j = mdel (p :: l) v
  unfold mdel
  rw [List.filter_cons, hne]
  simp only [Bool.not_false, if_true]
  rw [mdel_erase hv (fun r hr => hk r (by simp [hr])) hn.2 hj hq]
  rfl
omit [Outer] in
theorem map_eraseIdx {α β : Type} (f : α → β) : ∀ (l : List α) (j : Nat), (l.eraseIdx j).map f = (l.map f).eraseIdx j
 | [], _ => rfl
 | _ :: _, 0 => rfl
 | a :: l, j + 1 => by
  show f a :: (l.eraseIdx j).map f = f a :: (l.map f).eraseIdx j
  rw [map_eraseIdx f l j]
theorem deleteOp_sound {S : Sit} (hR : Rel S) {t : TypeId} {x k : AV} {c ck : Value} {H' : List Blk} {argTypes : Array TypeId} {ty : TypeId} (ht : argTypes[0]? = some t) (h : deleteOp P S.H t x k = some H') (hx : VRel S x c) (hk : VRel S k ck) :
    ∃ w', (Builtin.delete_ argTypes ty #[c, ck]).run P S.w = .ok (.tuple #[]) w' ∧ Rel ⟨H', S.ι, w'⟩ ∧ Ev S ⟨H', S.ι, w'⟩ := by
  unfold deleteOp at h
  split at h
  case h_2 => cases h
  rename_i sh kt e id u htm hcu
  split at h
  case h_2 => cases h
  rename_i sh' es hB
  split at h
  case isFalse => cases h
  rename_i hg
  obtain ⟨hsame, hok⟩ := hg
  have := KeyShape.same_eq hsame
  subst this
  cases h
  have hcu' := conc_eq hcu hk
  subst hcu'
  obtain ⟨hu, hsh⟩ := tmap_eq htm
  simp only [VRel] at hx
  obtain ⟨b, wm, hi, hnr, rfl⟩ := hx
  obtain ⟨B, hB', hrel⟩ := hR.blk id b wm hi
  rw [hB] at hB'; cases hB'
  obtain ⟨E, clock, hE, hM⟩ := hrel
  obtain ⟨hK, hkey⟩ := tshape_keyed hsh
  obtain ⟨lv, hlv⟩ := hkey ck hok
  have hget : (getObj b).run P S.w = .ok (.map E clock) S.w := by
    simp only [getObj, Sem.run, hE]
  have hbs : b < S.w.heap.size := (Array.getElem?_eq_some_iff.1 hE).1
  have hset : ∀ o, (setObj b o).run P S.w = .ok () { S.w with heap := S.w.heap.setIfInBounds b o } := by
    intro o
    simp only [setObj, Sem.run, hE]
  have hother : ∀ o b', b' ≠ b → ({ S.w with heap := S.w.heap.setIfInBounds b o } : World).heap[b']? = S.w.heap[b']? := by
    intro o b' hne
    simp [Ne.symm hne]
  have hhere : ∀ o, ({ S.w with heap := S.w.heap.setIfInBounds b o } : World).heap[b]? = some o := by
    intro o; simp [hbs]
  obtain ⟨es2, hp, h1, h2⟩ := hM.ents
  have hstart : ∀ r, (Instr.findKey kt ck E.toList).run P S.w = .ok r S.w → (Builtin.delete_ argTypes ty #[.map (some b), ck]).run P S.w =
      (do
        let _ ← (match r with
          | some (i, _) => setObj b (.map (E.eraseIdxIfInBounds i) clock)
          | none => setObj b (.map E clock) : Sem Unit)
        pure (Value.tuple #[]) : Sem Value).run P S.w := by
    intro r hr
    unfold Builtin.delete_
    simp only [ht, show (#[Value.map (some b), ck] : Array Value)[0]? = some (.map (some b)) from rfl, show (#[Value.map (some b), ck] : Array Value)[1]? = some ck from rfl]
    rw [Sem.run_bind, run_underlying hu]
    simp only [Result.andThen_ok]
    rw [Sem.run_bind, hget]
    simp only [Result.andThen_ok]
    rw [Sem.run_bind, hK.check S.w E.isEmpty hlv]
    simp only [Result.andThen_ok]
    rw [Sem.run_bind, hr]
    cases r <;> rfl
  rcases hM.find hsh hok S.w with ⟨hl, hf, hall⟩ | ⟨a', j, c', e', hl, hf, hr, hj, hek, hev'⟩
  · have hmdel : mdel es ck = es := List.filter_eq_self.2 fun p hp' => by
      rw [Bool.not_eq_true', Bool.eq_false_iff]; exact fun hh => hall p hp' ((veq_eq (hM.keys p hp') hok).1 hh)
    refine ⟨_, by rw [hstart _ hf]; simp only []; rw [Sem.run_bind, hset]; rfl, ?_, Ev.write hR hi hB rfl rfl (hother _)⟩
    refine Rel.write hR hi hB rfl rfl (hother _) ⟨_, _, hhere _, ?_⟩
    have hev := Ev.write hR (B' := .map sh (mdel es ck)) hi hB rfl rfl (hother (.map E clock))
    rw [hmdel] at hev ⊢
    exact hM.ev hev
  · have hjE : E[j]? = some e' := by simpa using hj
    have hjlt : j < E.size := (Array.getElem?_eq_some_iff.1 hjE).1
    refine ⟨_, by rw [hstart _ hf]; simp only []; rw [Sem.run_bind, hset]; rfl, ?_, Ev.write hR hi hB rfl rfl (hother _)⟩
    refine Rel.write hR hi hB rfl rfl (hother _) ⟨_, _, hhere _, ?_⟩
    have hev := Ev.write hR (B' := .map sh (mdel es ck)) hi hB rfl rfl (hother (.map (E.eraseIdxIfInBounds j) clock))
    have hE' : (E.eraseIdxIfInBounds j).toList = E.toList.eraseIdx j := by
      unfold Array.eraseIdxIfInBounds
      rw [dif_pos hjlt, Array.toList_eraseIdx]
    have hlen : es2.length = E.toList.length := by have := congrArg List.length h1; simpa using this.symm
    have hq : ∃ q, es2[j]? = some q ∧ q.1 = ck := by
      have hj2 : j < es2.length := by rw [hlen]; simpa using hjlt
      refine ⟨es2[j], by simp [hj2], ?_⟩
      have : (es2.map (·.1))[j]? = some e'.key := by rw [← h1]; simp [hjE]
      simp [hj2] at this
      rw [this, hek]
    obtain ⟨q, hq1, hq2⟩ := hq
    have hk2 : ∀ p ∈ es2, shOk sh p.1 = true := fun p h => hM.keys p (hp.mem_iff.1 h)
    have hn2 : (es2.map (·.1)).Nodup := (hp.map _).nodup_iff.2 hM.nodup
    have e2 := mdel_erase hok hk2 hn2 hq1 hq2
    refine ⟨⟨es2.eraseIdx j, ?_, ?_, ?_⟩, fun p hp' => hM.keys p ((List.mem_filter.1 hp').1), ?_, ?_, ?_⟩
    · rw [e2]; exact hp.filter _
    · rw [hE', map_eraseIdx, map_eraseIdx, h1]
    · rw [hE', map_eraseIdx, map_eraseIdx]
      exact VRels.ev hev _ _ (VRels.eraseIdx h2)
    · exact ((List.filter_sublist (l := es)).map _).nodup hM.nodup
    · rw [hE']
      exact ((List.eraseIdx_sublist E.toList j).map _).nodup hM.stamps
    · intro e he
      rw [hE'] at he
      exact hM.born e (List.mem_of_mem_eraseIdx he)
end Go.Vm
