/-
  Texts of the proof, part 10: the machine, contracts of functions, plain laws. (Own work.)
-/
import Derived.Test.YteefbiehcfmoeaaGreatDoorG09DalangParses

namespace Go.Vm
variable {P : Program}
theorem ER.holds_mono {k : Nat} {H0 : List Blk} {Q Q' : AExit → St → Prop} {r : ER} (h : ER.holds k H0 Q r) (hq : ∀ x σ, Q x σ → Q' x σ) : ER.holds k H0 Q' r := by
 cases r with
 | fail w => trivial
 | ok x e lo => obtain ⟨H, a, b, q⟩ := h; exact ⟨H, a, b, hq _ _ q⟩
section
variable {m : Bool} {call : CallT} {round : RoundT} {k : Nat} (hm : P.follows .mixedOrders = true) (hc : SoundC P call) (hr : SoundR P round)
theorem evLoop_sound {ro : Option Nat} {c : Code} {body : Trie AV → Trie Blk → Nat → List Nat → Nat → ER}
  (hb : ∀ vars t n d lo H H0, HT t n H → Keep H0 H lo → ER.holds k H0 (fun x σ' => Run P ro c ⟨k, vars, H, d⟩ x σ') (body vars t n d lo)) : ∀ (fuel : Nat) vars t n d lo H H0, HT t n H → Keep H0 H lo →
  ER.holds k H0 (fun x σ' => InL P ro c ⟨k, vars, H, d⟩ x σ') (evLoop body fuel vars t n d lo)
 | 0, _, _, _, _, _, _, _, _, _ => trivial
 | fuel + 1, vars, t, n, d, lo, H, H0, hH, hk => by
  have h1 := hb vars t n d lo H H0 hH hk
  show ER.holds k H0 _ (match body vars t n d lo with | .ok .normal e lo' => evLoop body fuel e.vars e.t e.n e.defs lo' | r => r)
  generalize body vars t n d lo = r at h1 ⊢
  cases r with
  | fail w => trivial
  | ok x e lo' =>
   obtain ⟨H1, a, b, q⟩ := h1
   cases x with
   | normal => exact ER.holds_mono (evLoop_sound hb fuel e.vars e.t e.n e.defs lo' H1 H0 a b) fun x σ h => .go q h
   | _ => exact ⟨H1, a, b, .out q rfl⟩
theorem busy_of {s : LoopState} (h : isBusy s = false) : s ≠ .busy := by rintro rfl; cases h
include hc in
theorem evRange_sound {ro : Option Nat} {g : Operand} {ps : Array Tmp} {assign body : Code} {vars : Trie AV} {t : Trie Blk} {n : Nat} {d : List Nat} {lo : Nat} {H H0 : List Blk} (hH : HT t n H) (hk : Keep H0 H lo) :
  ER.holds k H0 (fun x σ' => Run P ro (.rangeFunc g ps assign body) ⟨k, vars, H, d⟩ x σ') (evRange P call k ro g ps assign body vars t n d lo) := by
 have hl := hH.len
 unfold evRange
 cases hfv : evalT vars g with
 | none => trivial
 | some fv =>
 have hg : St.eval ⟨k, vars, H, d⟩ g = some fv := by rw [← evalT_eq]; exact hfv
 simp only
 cases hf : fnOf fv with
 | none => trivial
 | some p =>
 obtain ⟨f, first, captured⟩ := p
 simp only
 cases hcal : callable P f with
 | false => trivial
 | true =>
 simp only [cond_true]
 cases ro with
 | none =>
  simp only
  have hH2 : HT (set t (n + 1) (.loop (loop0 ⟨k, vars, [], []⟩ ps assign body n))) (n + 2) (H ++ [.defd, .loop (loop0 ⟨k, vars, H, d⟩ ps assign body H.length)]) := by
   have := (hH.skip .defd).push (.loop (loop0 ⟨k, vars, [], []⟩ ps assign body n))
   rw [hl]
   rw [List.append_assoc] at this
   exact this
  have hcf := hc f (first ++ [.yld (n + 1)] ++ captured) (set t (n + 1) (.loop (loop0 ⟨k, vars, [], []⟩ ps assign body n))) (n + 2)
  generalize call f (first ++ [.yld (n + 1)] ++ captured) (set t (n + 1) (.loop (loop0 ⟨k, vars, [], []⟩ ps assign body n))) (n + 2) = r at hcf ⊢
  cases r with
  | fail w => trivial
  | pan => trivial
  | ret v t2 n2 l =>
   obtain ⟨H2, hHT2, hcall, hkeep⟩ := hcf _ hH2
   simp only
   cases hg2 : get t2 (n + 1) with
   | none => trivial
   | some B =>
   cases B with
   | loop l' =>
    simp only
    cases hb : isBusy l'.state with
    | true => trivial
    | false =>
    simp only [cond_false]
    cases hj : jumpTo l'.pending with
    | none => trivial
    | some x =>
     refine lowT_spec (Q := fun r => ER.holds k H0 _ r) fun lo' h1 h2 => ?_
     have hl2 := hHT2.blk _ _ hg2
     have hlt2 := hHT2.lt hg2
     have hle2 : H.length + 2 ≤ H2.length := by have := hkeep.le; simp at this; omega
     refine ⟨H2.set (n + 1) (.loop { l' with state := .exhausted }), hHT2.set hlt2 _, ?_, ?_⟩
     ·refine ⟨by have := hk.le; simp; omega, fun id a b => ?_, fun id hid => ?_⟩
      ·have hid1 : id < H.length := by have := hk.le; omega
       rw [List.getElem?_set_ne (by omega), hkeep.low id (by omega) (by simp; omega), List.getElem?_append_left hid1]
       exact hk.low id (by omega) b
      ·exact keepsD_set hl2 id (hkeep.marks id (keepsD_append _ _ id (hk.marks id hid)))
     ·have := Run.rangeFunc_outer (P := P) (g := g) (ps := ps) (assign := assign) (body := body) (σ := ⟨k, vars, H, d⟩) (f := f) (first := first) (captured := captured) (v := v) (fv := fv) (H2 := H2) (l' := l') (e := x)
       hg hf hcal (by rw [← hl] at hcall; exact hcall) (by rw [← hl] at hl2; exact hl2) (busy_of hb) (fun id hid => hkeep.marks id (by
        have := keepsD_append (H ++ [Blk.defd]) [.loop (loop0 ⟨k, vars, H, d⟩ ps assign body H.length)] id hid
        simpa using this)) hj
      simpa [hl] using this
   | _ => trivial
 | some ido =>
  simp only
  cases ho : get t ido with
  | none => trivial
  | some B =>
  cases B with
  | loop l0 =>
   simp only
   have hH2 : HT (set t n (.loop (loop0 ⟨k, vars, [], []⟩ ps assign body l0.defers))) (n + 1) (H ++ [.loop (loop0 ⟨k, vars, H, d⟩ ps assign body l0.defers)]) := hH.push _
   have hcf := hc f (first ++ [.yld n] ++ captured) (set t n (.loop (loop0 ⟨k, vars, [], []⟩ ps assign body l0.defers))) (n + 1)
   generalize call f (first ++ [.yld n] ++ captured) (set t n (.loop (loop0 ⟨k, vars, [], []⟩ ps assign body l0.defers))) (n + 1) = r at hcf ⊢
   cases r with
   | fail w => trivial
   | pan => trivial
   | ret v t2 n2 l =>
    obtain ⟨H2, hHT2, hcall, hkeep⟩ := hcf _ hH2
    simp only
    cases hg2 : get t2 n with
    | none => trivial
    | some B =>
    cases B with
    | loop l' =>
     simp only
     cases hb : isBusy l'.state with
     | true => trivial
     | false =>
     simp only [cond_false]
     cases hj : jumpTo l'.pending with
     | none => trivial
     | some x =>
      refine lowT_spec (Q := fun r => ER.holds k H0 _ r) fun lo' h1 h2 => ?_
      have hl2 := hHT2.blk _ _ hg2
      have hlt2 := hHT2.lt hg2
      have hle2 : H.length + 1 ≤ H2.length := by have := hkeep.le; simp at this; omega
      refine ⟨H2.set n (.loop { l' with state := .exhausted }), hHT2.set hlt2 _, ?_, ?_⟩
      ·refine ⟨by have := hk.le; simp; omega, fun id a b => ?_, fun id hid => ?_⟩
       ·have hid1 : id < H.length := by have := hk.le; omega
        rw [List.getElem?_set_ne (by omega), hkeep.low id (by omega) (by simp; omega), List.getElem?_append_left hid1]
        exact hk.low id (by omega) b
       ·exact keepsD_set hl2 id (hkeep.marks id (keepsD_append _ _ id (hk.marks id hid)))
      ·have := Run.rangeFunc_inner (P := P) (ido := ido) (lo := l0) (g := g) (ps := ps) (assign := assign) (body := body) (σ := ⟨k, vars, H, d⟩) (f := f) (first := first) (captured := captured) (v := v) (fv := fv) (H2 := H2) (l' := l') (e := x)
        (hH.blk _ _ ho) hg hf hcal (by rw [← hl] at hcall; exact hcall) (by rw [← hl] at hl2; exact hl2) (busy_of hb) (fun id hid => hkeep.marks id (keepsD_append _ _ id hid)) hj
       simpa [hl] using this
    | _ => trivial
  | _ => trivial
include hm hc hr in
theorem evCode_sound {ro : Option Nat} : ∀ (c : Code) vars t n d lo H H0, HT t n H → Keep H0 H lo →
  ER.holds k H0 (fun x σ' => Run P ro c ⟨k, vars, H, d⟩ x σ') (evCode P m call round k ro c vars t n d lo) := by
 intro c
 induction c with
 | skip => intro vars t n d lo H H0 hH hk; exact ⟨H, hH, hk, .skip⟩
 | region id ops draw =>
  intro vars t n d lo H H0 hH hk
  cases draw with
  | true => exact evDraw_sound hc hr hm hH hk
  | false =>
   show ER.holds k H0 _ (evOps P m call round k d ops ops.toList vars t n lo)
   refine ER.holds_mono (evOps_sound (ops := ops) hc hr ops.toList 0 (fun j => by simp) vars t n lo H hH hk) ?_
   rintro x σ (⟨rfl, h⟩ | ⟨v, rfl, h⟩)
   ·exact Run.region (by simpa [List.range_eq_range'] using h)
   ·exact Run.region_pan (by simpa [List.range_eq_range'] using h)
 | seq a b iha ihb =>
  intro vars t n d lo H H0 hH hk
  have h1 := iha vars t n d lo H H0 hH hk
  show ER.holds k H0 _ (match evCode P m call round k ro a vars t n d lo with | .ok .normal e lo' => evCode P m call round k ro b e.vars e.t e.n e.defs lo' | r => r)
  generalize evCode P m call round k ro a vars t n d lo = r at h1 ⊢
  cases r with
  | fail w => trivial
  | ok x e lo' =>
   obtain ⟨H1, hH1, hk1, q⟩ := h1
   cases x with
   | normal => exact ER.holds_mono (ihb e.vars e.t e.n e.defs lo' H1 H0 hH1 hk1) fun x σ h => .seq q h
   | _ => exact ⟨H1, hH1, hk1, .seq_out q rfl⟩
 | cond c a b iha ihb =>
  intro vars t n d lo H H0 hH hk
  show ER.holds k H0 _ (match evalT vars c with | some (.lit (.bool true)) => evCode P m call round k ro a vars t n d lo | some (.lit (.bool false)) => evCode P m call round k ro b vars t n d lo | _ => .fail "code")
  split
  ·rename_i he
   rw [evalT_eq k vars H d] at he
   exact ER.holds_mono (iha vars t n d lo H H0 hH hk) fun x σ h => .cond he h
  ·rename_i he
   rw [evalT_eq k vars H d] at he
   exact ER.holds_mono (ihb vars t n d lo H H0 hH hk) fun x σ h => .cond he h
  ·trivial
 | block i c ih =>
  intro vars t n d lo H H0 hH hk
  have h1 := ih vars t n d lo H H0 hH hk
  show ER.holds k H0 _ (match evCode P m call round k ro c vars t n d lo with | .ok (.exit j) e lo' => bif Nat.beq i j then .ok .normal e lo' else .ok (.exit j) e lo' | r => r)
  generalize evCode P m call round k ro c vars t n d lo = r at h1 ⊢
  cases r with
  | fail w => trivial
  | ok x e lo' =>
   obtain ⟨H1, hH1, hk1, q⟩ := h1
   cases x with
   | normal => exact ⟨H1, hH1, hk1, .block q (.inl rfl)⟩
   | exit j =>
    simp only
    cases hb : Nat.beq i j with
    | true =>
     have := Nat.eq_of_beq_eq_true hb
     subst this
     exact ⟨H1, hH1, hk1, .block q (.inr rfl)⟩
    | false =>
     refine ⟨H1, hH1, hk1, .block_out q ?_⟩
     have : j ≠ i := by rintro rfl; rw [Nat.beq_refl] at hb; cases hb
     simp [AExit.passes, this]
   | ret => exact ⟨H1, hH1, hk1, .block_out q rfl⟩
   | pan v => exact ⟨H1, hH1, hk1, .block_out q rfl⟩
 | loop c ih =>
  intro vars t n d lo H H0 hH hk
  exact ER.holds_mono (evLoop_sound ih 100000 vars t n d lo H H0 hH hk) fun x σ h => .loop h
 | rangeFunc g ps assign body _ _ =>
  intro vars t n d lo H H0 hH hk
  exact evRange_sound hc hH hk
 | exit i => intro vars t n d lo H H0 hH hk; exact ⟨H, hH, hk, .exit⟩
 | scope c ih =>
  intro vars t n d lo H H0 hH hk
  exact ER.holds_mono (ih vars t n d lo H H0 hH hk) fun x σ h => .scope h
 | label l => intro vars t n d lo H H0 hH hk; exact ⟨H, hH, hk, .label⟩
 | goto l => intro vars t n d lo H H0 hH hk; trivial
 | ret => intro vars t n d lo H H0 hH hk; exact ⟨H, hH, hk, .ret⟩
 | refuse w => intro vars t n d lo H H0 hH hk; trivial
theorem underB_iff {n : Nat} : (∀ a : AV, AV.underB n a = true → a.under n) ∧ ∀ as : List AV, AV.undersB n as = true → AV.unders n as := by
  have blt : ∀ {id : Nat}, Nat.blt id n = true → id < n := fun h => Nat.le_of_ble_eq_true h
  refine ⟨fun a => AV.rec (motive_1 := fun a => AV.underB n a = true → a.under n) (motive_2 := fun as => AV.undersB n as = true → AV.unders n as) ?_ ?_ ?_ ?_ ?_ ?_ ?_ ?_ ?_ ?_ ?_ ?_ ?_ ?_ ?_ ?_ a,
    fun as => AV.rec_1 (motive_1 := fun a => AV.underB n a = true → a.under n) (motive_2 := fun as => AV.undersB n as = true → AV.unders n as) ?_ ?_ ?_ ?_ ?_ ?_ ?_ ?_ ?_ ?_ ?_ ?_ ?_ ?_ ?_ ?_ as⟩
  all_goals first
    | (intro v _; simp only [AV.under]; done)
    | (intro cells ih h; simp only [AV.under, AV.underB] at h ⊢; exact ih h)
    | (intro id off h; simp only [AV.under, AV.underB] at h ⊢; exact blt h)
    | (intro id h; simp only [AV.under, AV.underB] at h ⊢; exact blt h)
    | (intro id off len cap h; simp only [AV.under, AV.underB] at h ⊢; exact blt h)
    | (intro id off len h; simp only [AV.under, AV.underB] at h ⊢; exact blt h)
    | (intro len cells tail ih h
       simp only [AV.under, AV.underB, Bool.and_eq_true] at h ⊢
       refine ⟨ih h.2, ?_⟩
       cases tail with
       | own id g sz => exact blt h.1
       | _ => trivial)
    | (intro f first captured ih1 ih2 h; simp only [AV.under, AV.underB, Bool.and_eq_true] at h ⊢; exact ⟨ih1 h.1, ih2 h.2⟩)
    | (intro t v ih h; simp only [AV.under, AV.underB] at h ⊢; exact ih h)
    | (intro _; simp only [AV.unders]; done)
    | (intro _; simp only [AV.under]; done)
    | (intro a as ih1 ih2 h; simp only [AV.unders, AV.undersB, Bool.and_eq_true] at h ⊢; exact ⟨ih1 h.1, ih2 h.2⟩)
theorem resT_sound {t : Trie Blk} {n : Nat} {H : List Blk} (hH : HT t n H) {vars : Trie AV} {d : List Nat} : ∀ {rs : List ResultVar} {vs : List AV}, resT P (get t) vars rs = some vs → resA P ⟨k, vars, H, d⟩ rs = some vs
 | [], vs, h => h
 | .tmp x :: rs, vs, h => by
  simp only [resT] at h
  simp only [resA]
  split at h
  ·cases h
  ·rename_i v hv
   split at h
   ·cases h
   ·rename_i vs' hvs
    cases h
    rw [hv, resT_sound hH hvs]
 | .cell x ty :: rs, vs, h => by
  simp only [resT] at h
  simp only [resA]
  split at h
  ·cases h
  ·rename_i a ha
   split at h
   ·cases h
   ·rename_i v hv
    split at h
    ·cases h
    ·rename_i vs' hvs
     cases h
     rw [ha, resT_sound hH hvs]
     simp only [Option.bind_some, loadT_sound hH.blk hv]
theorem spendT_sound : ∀ (l : List Nat) {t : Trie Blk} {n : Nat} {H : List Blk}, HT t n H → (∀ id ∈ l, id < n) → HT (spendT l t) n (spend l H)
 | [], _, _, _, h, _ => h
 | id :: l, t, n, H, h, hl => spendT_sound l (h.set (hl id (by simp)) .spent) fun j hj => hl j (by simp [hj])
theorem spend_length : ∀ (l : List Nat) (H : List Blk), (spend l H).length = H.length
 | [], _ => rfl
 | id :: l, H => by unfold spend; rw [spend_length l]; simp
theorem spend_other : ∀ (l : List Nat) (H : List Blk) (j : Nat), j ∉ l → (spend l H)[j]? = H[j]?
 | [], _, _, _ => rfl
 | id :: l, H, j, h => by
  unfold spend
  rw [spend_other l _ j (fun hm => h (by simp [hm])), List.getElem?_set_ne (fun e => h (by simp [e]))]
theorem nodupB_sound : ∀ {l : List Nat}, nodupB l = true → l.Nodup
 | [], _ => List.nodup_nil
 | a :: l, h => by
  simp only [nodupB, Bool.and_eq_true, List.all_eq_true] at h
  refine List.nodup_cons.2 ⟨fun hm => ?_, nodupB_sound h.2⟩
  have := h.1 a hm
  simp [Nat.beq_refl] at this
theorem evFin_sound {f : FuncId} {fn : Func} {c : Code} {args : List AV} {t : Trie Blk} {n : Nat} {e : ES} {lo : Nat} {x : AExit} (hf : P.funcs[f]? = some fn) (hb : fn.body = some c) (hn : args.length ≤ fn.ntmps) (hx : x = .ret ∨ x = .normal)
  (h : ∀ H, HT t n H → ∃ H', HT e.t e.n H' ∧ Keep H H' lo ∧ Run P none c ⟨fn.ntmps, initVars 0 args, H, []⟩ x ⟨fn.ntmps, e.vars, H', e.defs⟩) : CRok P f args t n (evFin P fn.results.toList t n e lo) := by
 unfold evFin
 cases hd : (e.defs.all (fun d => Nat.ble n d && Nat.blt d e.n) && nodupB e.defs) with
 | false => trivial
 | true =>
 simp only [cond_true]
 rw [Bool.and_eq_true, List.all_eq_true] at hd
 have hdn : ∀ d ∈ e.defs, n ≤ d ∧ d < e.n := fun d hdm => by
  have := hd.1 d hdm
  rw [Bool.and_eq_true] at this
  exact ⟨Nat.le_of_ble_eq_true this.1, Nat.le_of_ble_eq_true this.2⟩
 cases hres : resT P (get (spendT e.defs e.t)) e.vars fn.results.toList with
 | none => trivial
 | some vs =>
 simp only
 have main : ∀ H, HT t n H → ∃ H', HT e.t e.n H' ∧ Keep H H' lo ∧ HT (spendT e.defs e.t) e.n (spend e.defs H') ∧ Keep H (spend e.defs H') lo ∧ ACall P f args H (.ret (resV vs)) (spend e.defs H') := by
  intro H hH
  obtain ⟨H', hH', hk, hrun⟩ := h H hH
  have hs := spendT_sound e.defs hH' fun d hdm => (hdn d hdm).2
  have hl := hH.len
  have hk2 : Keep H (spend e.defs H') lo := by
   refine ⟨by rw [spend_length]; exact hk.le, fun id a b => ?_, fun id hid => ?_⟩
   ·rw [spend_other _ _ _ fun hm => by have := (hdn id hm).1; omega]; exact hk.low id a b
   ·have hlt := (List.getElem?_eq_some_iff.1 hid).1
    rw [spend_other _ _ _ fun hm => by have := (hdn id hm).1; omega]; exact hk.marks id hid
  exact ⟨H', hH', hk, hs, hk2, ACall.intro_marks hf hb hn hrun hx (nodupB_sound hd.2) (resT_sound hs hres)⟩
 cases hcut : (Nat.ble n lo && AV.underB n (resV vs)) with
 | true =>
  rw [Bool.and_eq_true] at hcut
  have hle := Nat.le_of_ble_eq_true hcut.1
  intro H hH
  obtain ⟨H', _, _, _, hk2, hcall⟩ := main H hH
  have hl := hH.len
  exact ⟨H, hH, hcall.cut_same (by rw [hl]; exact underB_iff.1 _ hcut.2) (fun id hlt => hk2.low id (by omega) hlt) hk2.le, Keep.refl _ _⟩
 | false =>
  intro H hH
  obtain ⟨H', _, _, hs, hk2, hcall⟩ := main H hH
  exact ⟨_, hs, hcall, hk2⟩
include hm hc hr in
theorem evBody_sound (muts : FuncId → Bool) : SoundC P (evBody P call round muts) := by
 intro f args t n
 unfold evBody
 cases hf : P.funcs[f]? with
 | none => trivial
 | some fn =>
 simp only
 cases hb : fn.body with
 | none => trivial
 | some c =>
 simp only
 cases hlen : Nat.ble args.length fn.ntmps with
 | false => trivial
 | true =>
 simp only [cond_true]
 have hn := Nat.le_of_ble_eq_true hlen
 have key : ∀ H, HT t n H → ER.holds fn.ntmps H (fun x σ' => Run P none c ⟨fn.ntmps, initVars 0 args, H, []⟩ x σ') (evCode P (muts f) call round fn.ntmps none c (initVars 0 args) t n [] noLo) :=
  fun H hH => evCode_sound hm hc hr c (initVars 0 args) t n [] noLo H H hH (Keep.refl _ _)
 generalize evCode P (muts f) call round fn.ntmps none c (initVars 0 args) t n [] noLo = r at key ⊢
 cases r with
 | fail w => trivial
 | ok x e lo =>
 cases x with
 | pan v =>
  simp only
  cases hd : e.defs with
  | cons a l => trivial
  | nil =>
   intro H hH
   obtain ⟨H', hH', hk, hrun⟩ := key H hH
   rw [hd] at hrun
   exact ⟨H', hH', ACall.intro_pan hf hb hn hrun rfl, hk⟩
 | exit i => trivial
 | normal => exact evFin_sound hf hb hn (.inr rfl) key
 | ret => exact evFin_sound hf hb hn (.inl rfl) key
include hm hc hr in
theorem evRoundBody_sound : SoundR P (evRoundBody P call round) := by
  intro id args t n
  unfold evRoundBody
  cases hg : get t id with
  | none => trivial
  | some B =>
  cases B with
  | loop l =>
    simp only
    cases hp : (Nat.beq args.length l.params.size && l.params.toList.all (fun t => Nat.blt t l.n)) with
    | false => trivial
    | true =>
    simp only [cond_true]
    rw [Bool.and_eq_true, List.all_eq_true] at hp
    have hlen := Nat.eq_of_beq_eq_true hp.1
    have hpar : ∀ t ∈ l.params, t < l.n := fun t ht => Nat.le_of_ble_eq_true (hp.2 t (by simpa using ht))
    have key1 : ∀ H, HT t n H → ER.holds l.n H (fun x σ' => Run P (some id) l.assign ⟨l.n, putParams l.vars l.params.toList args, H, []⟩ x σ') (evCode P false call round l.n (some id) l.assign (putParams l.vars l.params.toList args) t n [] noLo) :=
      fun H hH => evCode_sound hm hc hr l.assign _ t n [] noLo H H hH (Keep.refl _ _)
    generalize evCode P false call round l.n (some id) l.assign (putParams l.vars l.params.toList args) t n [] noLo = r1 at key1 ⊢
    cases r1 with
    | fail w => trivial
    | ok x1 e1 lo1 =>
    cases x1 with
    | normal =>
      simp only
      cases hg1 : get e1.t id with
      | none => trivial
      | some B1 =>
      cases B1 with
      | loop l1 =>
        simp only
        cases hst : isReady l1.state with
        | false => trivial
        | true =>
        simp only [cond_true]
        have hready : l1.state = .ready := by cases hs : l1.state <;> rw [hs] at hst <;> first | rfl | cases hst
        refine lowT_spec (Q := fun r => RRok P id args t n r) fun lo1' h1 h2 => ?_
        have key2 : ∀ H1 H, HT e1.t e1.n H1 → Keep H H1 lo1 → ER.holds l.n H (fun x σ' => Run P (some id) l.body ⟨l.n, e1.vars, H1.set id (.loop { l1 with state := .busy }), e1.defs⟩ x σ')
            (evCode P false call round l.n (some id) l.body e1.vars (set e1.t id (.loop { l1 with state := .busy })) e1.n e1.defs lo1') := fun H1 H hH1 hk1 => by
          have hB := hH1.blk _ _ hg1
          exact evCode_sound hm hc hr l.body _ _ _ _ _ _ H (hH1.set (hH1.lt hg1) _) (hk1.trans (Keep.set hB (by simp)) h1 h2)
        generalize evCode P false call round l.n (some id) l.body e1.vars (set e1.t id (.loop { l1 with state := .busy })) e1.n e1.defs lo1' = r2 at key2 ⊢
        cases r2 with
        | fail w => trivial
        | ok x2 e2 lo2 =>
        simp only
        cases hg2 : get e2.t id with
        | none => trivial
        | some B2 =>
        cases B2 with
        | loop l2 =>
          cases hj : jumpOf x2 with
          | none => trivial
          | some j =>
            simp only
            refine lowT_spec (Q := fun r => RRok P id args t n r) fun lo2' h3 h4 => ?_
            intro H hH
            obtain ⟨H1, hH1, hk1, hrun1⟩ := key1 H hH
            obtain ⟨H2, hH2, hk2, hrun2⟩ := key2 H1 H hH1 hk1
            have hB2 := hH2.blk _ _ hg2
            refine ⟨H2.set id (.loop { l2 with state := if j.isNone then .ready else .done, pending := j }), hH2.set (hH2.lt hg2) _, ?_, hk2.trans (Keep.set hB2 (by simp)) h3 h4⟩
            exact ARound.intro (hH.blk _ _ hg) hlen hpar hrun1 (hH1.blk _ _ hg1) hready hrun2 hB2 hj
        | _ => trivial
      | _ => trivial
    | _ => trivial
  | _ => trivial
end
theorem forceN_eq {α : Type} (n : Nat) (k : Nat → α) : forceN n k = k n := by
 have key : ∀ (m : Nat) (x : α), x = k n → (bif Nat.beq n m then k m else x) = k n := fun m x hx => by
  cases h : Nat.beq n m with
  | true => rw [Nat.eq_of_beq_eq_true h]; rfl
  | false => exact hx
 unfold forceN
 exact key _ _ (key _ _ (key _ _ (key _ _ (key _ _ (key _ _ (key _ _ (key _ _ rfl)))))))
theorem forceI_eq {α : Type} (n : Int) (k : Int → α) : forceI n k = k n := by
 cases n with
 | ofNat n => exact forceN_eq n fun m => k (Int.ofNat m)
 | negSucc n => exact forceN_eq n fun m => k (Int.negSucc m)
theorem forceK_eq {α : Type} (d : IntKind) (k : IntKind → α) : forceK d k = k d := by
 cases d <;> rfl
theorem forceV_eq {α : Type} (v : Value) (k : Value → α) : forceV v k = k v := by
 cases v with
 | int d n => simp only [forceV, forceK_eq, forceI_eq]
 | bool b => cases b <;> rfl
 | _ => rfl
theorem forceT_eq {α : Type} (t : Tail) (k : Tail → α) : forceT t k = k t := by
 cases t <;> rfl
mutual
theorem AV.force_eq {α : Type} : ∀ (a : AV) (k : AV → α), AV.force a k = k a
 | .lit v, k => by simp only [AV.force, forceV_eq]
 | .agg cells, k => by simp only [AV.force, AV.forces_eq cells]
 | .tup vs, k => by simp only [AV.force, AV.forces_eq vs]
 | .eptr cells, k => by simp only [AV.force, AV.forces_eq cells]
 | .sl len cells tail, k => by simp only [AV.force, forceN_eq, AV.forces_eq cells, forceT_eq]
 | .iface t v, k => by simp only [AV.force, AV.force_eq v]
 | .ptr _ _, k => by simp only [AV.force]
 | .hsl _ _ _ _, k => by simp only [AV.force]
 | .mp _, k => by simp only [AV.force]
 | .fn _ _ _, k => by simp only [AV.force]
 | .yld _, k => by simp only [AV.force]
 | .msl _ _ _ _, k => by simp only [AV.force]
 | .mptr _ _ _, k => by simp only [AV.force]
 | .mpx, k => by simp only [AV.force]
theorem AV.forces_eq {α : Type} : ∀ (l : List AV) (k : List AV → α), AV.forces l k = k l
 | [], k => by simp only [AV.forces]
 | a :: l, k => by simp only [AV.forces, AV.force_eq a, AV.forces_eq l]
end
theorem evAlone_sound {body : CallT} (h : SoundC P body) : SoundC P (evAlone body) := by
 intro f args t n
 unfold evAlone
 cases ha : AV.undersB 0 (AV.forgets args) with
 | false => exact h f args t n
 | true =>
 simp only [cond_true, AV.forces_eq]
 have hcf := h f (AV.forgets args) .nil 0
 generalize body f (AV.forgets args) .nil 0 = r at hcf ⊢
 cases r with
 | fail w => trivial
 | pan => trivial
 | ret v t' n' lo =>
  simp only
  cases hv : AV.underB 0 v.forget with
  | false => trivial
  | true =>
   simp only [cond_true]
   intro H hH
   obtain ⟨H', _, hcall, _⟩ := hcf [] HT.nil
   exact ⟨H, hH, hcall.alone (underB_iff.2 _ ha) (underB_iff.1 _ hv) H, Keep.refl _ _⟩
def Know.Right (P : Program) (K : Know) : Prop := ∀ f T, K.told f = some T → ∀ call, SoundC P call → ∀ args t n, CRok P f args t n (T call f args t n)
theorem evN_sound {K : Know} (hm : P.follows .mixedOrders = true) (hK : K.Right P) : ∀ fuel, SoundC P (evN P K fuel).1 ∧ SoundR P (evN P K fuel).2
 | 0 => ⟨fun _ _ _ _ => trivial, fun _ _ _ _ => trivial⟩
 | fuel + 1 => by
  obtain ⟨hc, hr⟩ := evN_sound hm hK fuel
  refine ⟨fun f args t n => ?_, evRoundBody_sound hm hc hr⟩
  show CRok P f args t n (match K.told f with
   | some T => T (evN P K fuel).1 f args t n
   | none => bif K.alone f then evAlone (evBody P (evN P K fuel).1 (evN P K fuel).2 K.muts) f args t n else evBody P (evN P K fuel).1 (evN P K fuel).2 K.muts f args t n)
  cases ht : K.told f with
  | some T => exact hK f T ht _ hc args t n
  | none =>
   simp only
   cases K.alone f with
   | true => exact evAlone_sound (evBody_sound hm hc hr K.muts) f args t n
   | false => exact evBody_sound hm hc hr K.muts f args t n
end Go.Vm
