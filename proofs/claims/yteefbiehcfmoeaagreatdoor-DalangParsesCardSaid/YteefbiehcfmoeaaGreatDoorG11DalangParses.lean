/-
  Texts of the proof, part 11: the machine, contracts of functions, plain laws. (Own work.)
-/
import Derived.Test.YteefbiehcfmoeaaGreatDoorG10DalangParses
import Derived.Recover

namespace Go.Vm
variable {P : Program}
theorem Act.put_with {a : Act} {ds : List Deferred} (dst : Option Tmp) (v : Value) : ({ a with defers := ds } : Act).put dst v = { a.put dst v with defers := ds } := by
 cases dst <;> rfl
theorem Act.put_defers {a : Act} (dst : Option Tmp) (v : Value) : (a.put dst v).defers = a.defers := by
 cases dst <;> rfl
theorem AStep.sound0 [Outer] {ops : Array Oper} {i : Nat} {σ σ1 : St} (h : AStep P ops i σ σ1) {ι : Nat → Option (Nat × Nat)} {a : Act} {w : World} {cro : Option Nat} (hs : SRel σ ι a w)
  {Q : Exit → Act → World → Prop} {K : Act → World → Prop}
  (hK : ∀ ι' a' w', SRel σ1 ι' a' w' → Ev ⟨σ.H, ι, w⟩ ⟨σ1.H, ι', w'⟩ → Non ⟨σ.H, ι, w⟩ ⟨σ1.H, ι', w'⟩ → a'.defers = a.defers → K a' w') : wpOpIn (Fr cro) 0 P ops Q i K a w := by
 unfold wpOpIn
 have hput : ∀ {dst : Option Tmp} {v : AV} {H' : List Blk}, putA σ dst v H' = some σ1 → σ1.H = H' := by
  intro dst v H' hp
  unfold putA at hp
  cases dst with
  | none => simp only [Option.some.injEq] at hp; subst hp; rfl
  | some d => simp only at hp; split at hp <;> first | (simp only [Option.some.injEq] at hp; subst hp; rfl) | cases hp
 cases h with
 | skip ho hw hp =>
  simp only [ho]
  rw [wantedA_sound hs.vars hw]
  simp only [Bool.false_eq_true, if_false]
  refine ⟨fun _ _ => Fr_fn _ _, ?_⟩
  have hH := hput hp
  refine hK ι _ w (hs.put hs.rel (Ev.refl _) (fun _ h => h) (by simp [VRel]) hp) ?_ ?_ (Act.put_defers ..)
  ·rw [hH]; exact Ev.refl _
  ·rw [hH]; exact Non.refl _
 | val ho hw ha hd hp =>
  rename_i o v H'
  simp only [ho]
  rw [wantedA_sound hs.vars hw]
  simp only [if_true]
  refine ⟨fun _ _ => Fr_fn _ _, ?_⟩
  have hH := hput hp
  have hok := aop_sound hs.rel (St.eval_sound hs) ha
  rw [Oper.semAt_eq _ _ _ (aop_noDefer ha)]
  obtain ⟨c, ι', w', hx, hR, hev, hnon, hv⟩ := hok
  rcases hx with hx | ⟨hx, rfl⟩
  ·rw [hx]
   exact hK ι' _ w' (hs.put hR hev hd hv hp) (by rw [hH]; exact hev) (by rw [hH]; exact hnon) (Act.put_defers ..)
  ·rw [hx]
   exact hK ι' _ w' (hs.put hR hev hd hv hp) (by rw [hH]; exact hev) (by rw [hH]; exact hnon) (Act.put_defers ..)
 | call ho hw ha hcal hc hd hp =>
  rename_i o f args v H'
  simp only [ho]
  rw [wantedA_sound hs.vars hw]
  simp only [if_true]
  refine ⟨fun _ _ => Fr_fn _ _, ?_⟩
  have hH := hput hp
  obtain ⟨cs, hx, hargs⟩ := aop_sound hs.rel (St.eval_sound hs) ha hcal
  rw [Oper.semAt_eq _ _ _ (aop_noDefer ha), hx]
  refine ⟨fun h => (by simp [Fr_depth] at h), ?_⟩
  have hcall : CallsIn (Fr cro) 0 P f cs w (EPost ⟨σ.H, ι, w⟩ (.ret v) H') := hc _ ι w cs hs.rel hargs
  refine hcall.mono ?_
  rintro e w' ⟨ι', hend, hR, hev, hnon⟩
  cases e with
  | returned c => exact hK ι' _ w' (hs.put hR hev hd hend hp) (by rw [hH]; exact hev) (by rw [hH]; exact hnon) (Act.put_defers ..)
  | panicked chain => exact hend.elim
  | outgrown => exact hend.elim
 | round ho hw ha hc hd hp =>
  rename_i o id args v H'
  simp only [ho]
  rw [wantedA_sound hs.vars hw]
  simp only [if_true]
  refine ⟨fun _ _ => Fr_fn _ _, ?_⟩
  have hH := hput hp
  obtain ⟨b, wm, L, cs, hi, hn, hL, hsz, hx, hargs⟩ := aop_sound hs.rel (St.eval_sound hs) ha
  rw [Oper.semAt_eq _ _ _ (aop_noDefer ha), hx]
  refine ⟨fun h => (by simp [Fr_depth] at h), ?_⟩
  have hround := hc _ ι w b wm L cs hs.rel hi hn hL hsz hargs
  refine RoundIn.mono (F := Fr cro) hround ?_
  rintro e w' ⟨ι', hend, hR, hev, hnon⟩
  cases e with
  | returned c => exact hK ι' _ w' (hs.put hR hev hd hend hp) (by rw [hH]; exact hev) (by rw [hH]; exact hnon) (Act.put_defers ..)
  | panicked chain => exact hend.elim
  | outgrown => exact hend.elim
theorem wpOpIn_beside {F : Fence} {n : Nat} {ops : Array Oper} {i : Nat} {Q Q' : Exit → Act → World → Prop} {K K' : Act → World → Prop} {a : Act} {ds : List Deferred} {w : World}
  (hK : ∀ a' w', K a' w' → a'.defers = [] ∧ K' { a' with defers := ds } w') (hQ : ∀ chain w', Q (.panic chain) a w' → Q' (.panic chain) { a with defers := ds } w') (hQo : LetsOut Q → LetsOut Q')
  (h : wpOpIn F n P ops Q i K a w) : wpOpIn F n P ops Q' i K' { a with defers := ds } w := by
 unfold wpOpIn at h ⊢
 cases ho : ops[i]? with
 | none =>
  simp only [ho] at h ⊢
  exact (hK _ _ h).2
 | some o =>
  simp only [ho] at h ⊢
  by_cases hw : Region.wanted o (yielded ops a.tmps) = true
  ·rw [if_pos hw] at h
   rw [if_pos (show Region.wanted o (yielded ops ({ a with defers := ds } : Act).tmps) = true from hw)]
   unfold Oper.wpIn at h ⊢
   refine ⟨h.1, ?_⟩
   have h := h.2
   have he : ({ a with defers := ds } : Act).eval = a.eval := rfl
   rw [he]
   generalize (o.semAt F.round a.eval).run P w = r at h ⊢
   have put : ∀ dst v w', K (a.put dst v) w' → K' (({ a with defers := ds } : Act).put dst v) w' := fun dst v w' hk => by
    rw [Act.put_with]; exact (hK _ _ hk).2
   cases r with
   | ok x w' =>
    cases x with
    | value v => exact put _ _ _ h
    | skip => exact put _ _ _ h
    | defer d =>
     exfalso
     have := (hK _ _ h).1
     rw [Act.put_defers] at this
     cases this
    | enter f args =>
     refine ⟨h.1, CallsIn.mono h.2 fun e w'' he => ?_⟩
     cases e with
     | returned v => exact put _ _ _ he
     | panicked chain => exact hQ _ _ he
     | outgrown => exact hQo he
    | row r args => exact ⟨h.1, RowsIn.mono h.2 fun _ _ he => put _ _ _ he⟩
    | round l f tmps assign body =>
     refine ⟨h.1, RoundIn.mono h.2 fun e w'' he => ?_⟩
     cases e with
     | returned v => exact put _ _ _ he
     | panicked chain => exact hQ _ _ he
     | outgrown => exact hQo he
    | _ => exact h
   | halt x w' =>
    cases x with
    | panic v => exact hQ _ _ h
    | _ => exact h
  ·rw [if_neg hw] at h
   rw [if_neg (show ¬ Region.wanted o (yielded ops ({ a with defers := ds } : Act).tmps) = true from hw)]
   refine ⟨h.1, ?_⟩
   rw [Act.put_with]
   exact (hK _ _ h.2).2
def Post0 (S : Sit) [Outer] (ds : List Deferred) (e : AExit) (σ' : St) : Exit → Act → World → Prop := fun e' a' w' => a'.defers = ds ∧ Post S e σ' e' { a' with defers := [] } w'
theorem Post0.noOut [Outer] {S : Sit} {ds : List Deferred} {e : AExit} {σ' : St} : LetsOut (fun _ _ _ => False) → LetsOut (Post0 S ds e σ') := fun h => by
 obtain ⟨_, _, h⟩ := h
 exact h.elim
theorem APath.sound0 [Outer] {ops : Array Oper} {cro : Option Nat} {S0 : Sit} {ds : List Deferred} : ∀ {l : List Nat} {σ σ' : St}, APath P ops l σ σ' → ∀ {ι : Nat → Option (Nat × Nat)} {a : Act} {w : World}, SRel σ ι a w → a.defers = [] →
  Ev S0 ⟨σ.H, ι, w⟩ → Non S0 ⟨σ.H, ι, w⟩ → wpOpsIn (Fr cro) 0 P ops (Post0 S0 ds .normal σ') l { a with defers := ds } w
 | _, _, _, .nil, ι, a, _, hs, ha, hev, hnon => by
  simp only [wpOpsIn]
  refine ⟨rfl, ι, trivial, ?_, hev, hnon⟩
  have : ({ ({ a with defers := ds } : Act) with defers := [] } : Act) = a := by cases a; simp only at ha; subst ha; rfl
  rw [this]; exact hs
 | _, _, _, .cons h t, ι, a, w, hs, ha, hev, hnon => by
  rw [wpOpsIn_cons]
  refine wpOpIn_beside (Q := fun _ _ _ => False) (K := fun a' w' => a'.defers = [] ∧ wpOpsIn (Fr cro) 0 P ops (Post0 S0 ds .normal _) _ { a' with defers := ds } w') (fun _ _ h => h) (fun _ _ h => h.elim) Post0.noOut ?_
  exact h.sound0 hs fun ι1 a1 w1 hs1 hev1 hnon1 hd1 => ⟨hd1.trans ha, APath.sound0 t hs1 (hd1.trans ha) (hev.trans hev1) (hnon.trans hev hnon1)⟩
theorem PanOne.sound0 [Outer] {ops : Array Oper} {cro : Option Nat} {S0 : Sit} {ds : List Deferred} {v : AV} {i : Nat} {l : List Nat} {σ σ' : St} {ι : Nat → Option (Nat × Nat)} {a : Act} {w : World} (h : PanOne P ops i σ v σ') (hs : SRel σ ι a w) (ha : a.defers = [])
  (hev : Ev S0 ⟨σ.H, ι, w⟩) (hnon : Non S0 ⟨σ.H, ι, w⟩) : wpOpsIn (Fr cro) 0 P ops (Post0 S0 ds (.pan v) σ') (i :: l) { a with defers := ds } w := by
 rw [wpOpsIn_cons]
 have e0 : ({ ({ a with defers := ds } : Act) with defers := [] } : Act) = a := by cases a; simp only at ha; subst ha; rfl
 refine wpOpIn_beside (Q := Post S0 (.pan v) σ') (K := fun _ _ => False) (fun _ _ h => h.elim) (fun chain w' hp => ⟨rfl, by rw [e0]; exact hp⟩) ?_ (h.one hs (St.Eqv.refl _) hev hnon)
 rintro ⟨_, _, _, hx, _⟩
 exact hx.elim
theorem APanics.sound0 [Outer] {ops : Array Oper} {cro : Option Nat} {S0 : Sit} {ds : List Deferred} {v : AV} : ∀ {l : List Nat} {σ σ' : St}, APanics P ops l σ v σ' → ∀ {ι : Nat → Option (Nat × Nat)} {a : Act} {w : World}, SRel σ ι a w → a.defers = [] →
  Ev S0 ⟨σ.H, ι, w⟩ → Non S0 ⟨σ.H, ι, w⟩ → wpOpsIn (Fr cro) 0 P ops (Post0 S0 ds (.pan v) σ') l { a with defers := ds } w
 | _, _, _, .op ho hw ha', ι, a, w, hs, ha, hev, hnon => PanOne.sound0 (.op ho hw ha') hs ha hev hnon
 | _, _, _, .call ho hw ha' hcal hc hd, ι, a, w, hs, ha, hev, hnon => PanOne.sound0 (.call ho hw ha' hcal hc hd) hs ha hev hnon
 | _, _, _, .cons h t, ι, a, w, hs, ha, hev, hnon => by
  rw [wpOpsIn_cons]
  refine wpOpIn_beside (Q := fun _ _ _ => False) (K := fun a' w' => a'.defers = [] ∧ wpOpsIn (Fr cro) 0 P ops (Post0 S0 ds (.pan v) _) _ { a' with defers := ds } w') (fun _ _ h => h) (fun _ _ h => h.elim) Post0.noOut ?_
  exact h.sound0 hs fun ι1 a1 w1 hs1 hev1 hnon1 hd1 => ⟨hd1.trans ha, APanics.sound0 t hs1 (hd1.trans ha) (hev.trans hev1) (hnon.trans hev hnon1)⟩
def Run0 (P : Program) (c : Code) (σ : St) (e : AExit) (σ' : St) : Prop :=
 ∀ (_ : Outer) ι a w, SRel σ ι a w → a.defers = [] → ∀ ds, c.wpIn (Fr none) 0 P (Post0 ⟨σ.H, ι, w⟩ ds e σ') { a with defers := ds } w
theorem Post0.trans [Outer] {S S' : Sit} (h : Ev S S') (hn : Non S S') {ds : List Deferred} {e : AExit} {σ' : St} : ∀ e' a' w', Post0 S' ds e σ' e' a' w' → Post0 S ds e σ' e' a' w' :=
 fun e' _ w' ⟨hd, hp⟩ => ⟨hd, Post.trans h hn e' _ w' hp⟩
theorem act_self {a : Act} {ds : List Deferred} (h : a.defers = ds) : ({ a with defers := ds } : Act) = a := by cases a; subst h; rfl
theorem act_back {a : Act} {ds : List Deferred} (h : a.defers = ds) : ({ ({ a with defers := [] } : Act) with defers := ds } : Act) = a := by cases a; subst h; rfl
theorem act_none {a : Act} {ds : List Deferred} (h : a.defers = []) : ({ ({ a with defers := ds } : Act) with defers := [] } : Act) = a := by cases a; subst h; rfl
section
variable {σ σ1 σ' : St} {e : AExit}
theorem Run0.skip : Run0 P .skip σ .normal σ := fun _ ι _ _ h ha _ => wpIn_skip ⟨rfl, ι, trivial, by rw [act_none ha]; exact h, Ev.refl _, Non.refl _⟩
theorem Run0.exit {i : Nat} : Run0 P (.exit i) σ (.exit i) σ := fun _ ι _ _ h ha _ => wpIn_exit ⟨rfl, ι, rfl, by rw [act_none ha]; exact h, Ev.refl _, Non.refl _⟩
theorem Run0.ret : Run0 P .ret σ .ret σ := fun _ ι _ _ h ha _ => wpIn_ret ⟨rfl, ι, trivial, by rw [act_none ha]; exact h, Ev.refl _, Non.refl _⟩
theorem Run0.seq {x y : Code} (h1 : Run0 P x σ .normal σ1) (h2 : Run0 P y σ1 e σ') : Run0 P (.seq x y) σ e σ' := by
  intro O ι a w h ha ds
  refine wpIn_seq (wpIn_mono (h1 _ ι a w h ha ds) ?_)
  rintro e1 a1 w1 ⟨hd, ι1, hx, hs, hev, hnon⟩
  cases e1 <;> first
    | (have := wpIn_mono (h2 _ ι1 _ w1 hs rfl ds) (Post0.trans hev hnon)
       rw [act_back hd] at this
       exact this)
    | exact hx.elim
theorem Run0.seq_out {x y : Code} (h1 : Run0 P x σ e σ') (he : e.isNormal = false) : Run0 P (.seq x y) σ e σ' := by
 intro O ι a w h ha ds
 refine wpIn_seq (wpIn_mono (h1 _ ι a w h ha ds) ?_)
 rintro e1 a1 w1 hp
 cases e1 with
 | normal =>
  obtain ⟨_, ι1, hx, _⟩ := hp
  cases e <;> first | (cases he; done) | exact hx.elim
 | _ => exact hp
theorem Run0.cond {c : Operand} {x y : Code} {t : Bool} (hc : σ.eval c = some (.lit (.bool t))) (h : Run0 P (if t then x else y) σ e σ') : Run0 P (.cond c x y) σ e σ' := by
 intro O ι a w hs ha ds
 refine wpIn_cond (t := t) ?_ (h _ ι a w hs ha ds)
 cases c with
 | tmp k =>
  obtain ⟨d, hd, hr⟩ := hs.vars k _ hc
  simp only [VRel] at hr
  show a.eval (.tmp k) = _
  simp [Act.eval, hd, hr]
 | const v => simp only [St.eval, Option.some.injEq, AV.lit.injEq] at hc; subst hc; rfl
 | func f => simp [St.eval] at hc
 | global g => simp [St.eval] at hc
theorem Run0.block {i : Nat} {c : Code} (h : Run0 P c σ e σ') (he : e = .normal ∨ e = .exit i) : Run0 P (.block i c) σ .normal σ' := by
 intro O ι a w hs ha ds
 refine wpIn_block (wpIn_mono (h _ ι a w hs ha ds) ?_)
 rintro e1 a1 w1 ⟨hd, ι1, hx, hr⟩
 rcases he with rfl | rfl
 ·cases e1 <;> first | exact ⟨hd, ι1, trivial, hr⟩ | exact hx.elim
 ·cases e1 with
  | exit j =>
   have : i = j := hx
   subst this
   simp only [Exit.inBlock, if_true]
   exact ⟨hd, ι1, trivial, hr⟩
  | _ => exact hx.elim
theorem Run0.block_out {i : Nat} {c : Code} (h : Run0 P c σ e σ') (he : e.passes i = true) : Run0 P (.block i c) σ e σ' := by
 intro O ι a w hs ha ds
 refine wpIn_block (wpIn_mono (h _ ι a w hs ha ds) ?_)
 rintro e1 a1 w1 hp
 obtain ⟨hd, ι1, hx, hr⟩ := hp
 cases e with
 | normal => cases he
 | exit j =>
  cases e1 with
  | exit k =>
   have hjk : j = k := hx
   subst hjk
   simp only [AExit.passes, bne_iff_ne, ne_eq] at he
   simp only [Exit.inBlock, if_neg he]
   exact ⟨hd, ι1, rfl, hr⟩
  | _ => exact hx.elim
 | ret => cases e1 <;> first | exact ⟨hd, ι1, trivial, hr⟩ | exact hx.elim
 | pan v => cases e1 <;> first | exact ⟨hd, ι1, hx, hr⟩ | exact hx.elim
theorem Run0.region {id : Nat} {ops : Array Oper} (h : APath P ops (List.range ops.size) σ σ') : Run0 P (.region id ops false) σ .normal σ' :=
 fun _ _ _ _ hs ha _ => wpIn_region (h.sound0 hs ha (Ev.refl _) (Non.refl _))
theorem Run0.region_pan {id : Nat} {ops : Array Oper} {v : AV} (h : APanics P ops (List.range ops.size) σ v σ') : Run0 P (.region id ops false) σ (.pan v) σ' :=
 fun _ _ _ _ hs ha _ => wpIn_region (h.sound0 hs ha (Ev.refl _) (Non.refl _))
end
end Go.Vm

namespace Go.Vm
variable {P : Program}
def recOps (r : Tmp) (ty : TypeId) (pos : String) (ats : Array TypeId) (aft : Array Edge) (ex : Option (Tmp × TypeId × String × Array Edge)) : Array Oper :=
 match ex with
 | none => #[⟨some r, .call ⟨.builtin .recover, #[], ats⟩, ty, pos, aft, none⟩]
 | some (x, ty2, pos2, aft2) => #[⟨some r, .call ⟨.builtin .recover, #[], ats⟩, ty, pos, aft, none⟩, ⟨some x, .assign (.tmp r), ty2, pos2, aft2, none⟩]
noncomputable def recVars (args : List AV) (r : Tmp) (av : AV) (ex : Option (Tmp × TypeId × String × Array Edge)) : Trie AV :=
 match ex with
 | none => set (initVars 0 args) r av
 | some (x, _) => set (set (initVars 0 args) r av) x av
def RecAs (u : FrameMode) (c : Value) (u' : FrameMode) : Prop :=
 (u = .returning ∧ c = .nilIface ∧ u' = .returning) ∨ (u = .panicking [{ v := c, recovered := false }] ∧ u' = .panicking [{ v := c, recovered := true }])
theorem RecAs.ne_run {u : FrameMode} {c : Value} {u' : FrameMode} (h : RecAs u c u') : u ≠ .run := by
 rcases h with ⟨rfl, _, _⟩ | ⟨rfl, _⟩ <;> intro h <;> cases h
theorem RecAs.settle {u : FrameMode} {c : Value} {u' : FrameMode} (h : RecAs u c u') : Go.settle u' = .returning := by
 rcases h with ⟨rfl, _, rfl⟩ | ⟨rfl, rfl⟩ <;> rfl
theorem SRel.put2 [Outer] {σ : St} {ι : Nat → Option (Nat × Nat)} {a : Act} {w : World} {d : Tmp} {v : AV} {c : Value} (hs : SRel σ ι a w) (hv : VRel ⟨σ.H, ι, w⟩ v c) (hd : d < σ.n) : SRel { σ with vars := set σ.vars d v } ι (a.put (some d) c) w :=
 hs.put hs.rel (Ev.refl _) (fun _ h => h) hv (by unfold putA; simp only; rw [if_pos hd])
theorem callsD_rec [Outer] {g : FuncId} {gn : Func} {i0 : Nat} {r : Tmp} {ty : TypeId} {pos : String} {ats : Array TypeId} {aft : Array Edge} {ex : Option (Tmp × TypeId × String × Array Edge)} {D : Code}
    (hf : P.funcs[g]? = some gn) (hb : gn.body = some (.seq (.region i0 (recOps r ty pos ats aft ex) false) D)) (hres : gn.results = #[]) (hr : r < gn.ntmps) (hx : ∀ x, ex = some x → x.1 < gn.ntmps)
    {H : List Blk} {ι : Nat → Option (Nat × Nat)} {w : World} (hR : Rel ⟨H, ι, w⟩) {args : List AV} {cs : Array Value} (hargs : VRels ⟨H, ι, w⟩ args cs.toList) (hn : args.length ≤ gn.ntmps) {av : AV} {c : Value} (hv : VRel ⟨H, ι, w⟩ av c)
    {u u' : FrameMode} (hfd : RecAs u c u') {y : AExit} {σ' : St} (hrun : Run0 P D ⟨gn.ntmps, recVars args r av ex, H, []⟩ y σ') (hy : y = .ret ∨ y = .normal) :
    CallsD P g cs u w fun e u1 w' => (∃ v, e = .returned v) ∧ u1 = u' ∧ ∃ ι', Rel ⟨σ'.H, ι', w'⟩ ∧ Ev ⟨H, ι, w⟩ ⟨σ'.H, ι', w'⟩ ∧ Non ⟨H, ι, w⟩ ⟨σ'.H, ι', w'⟩ := by
  refine callsD_of_wpS hf hb fun c₀ cs₀ hu => ?_
  have hlen := hargs.length
  simp only [Array.length_toList] at hlen
  obtain ⟨a0, he0⟩ : ∃ a0 : Act, a0 = { tmps := cs ++ Array.replicate (gn.ntmps - cs.size) undef, defers := [] } := ⟨_, rfl⟩
  have hs0 : SRel ⟨gn.ntmps, initVars 0 args, H, []⟩ ι a0 w := by
    subst he0
    exact ⟨hR, by simp; omega, init_vars hargs, rfl⟩
  have ha0 : a0.defers = [] := by rw [he0]
  rw [← he0]
  clear he0
  -- what is found
  have hrec : ∀ (K : Act → List Frame → World → Prop), K (a0.put (some r) c) ({ c₀ with mode := u' } :: cs₀) w →
      (match recoverD (c₀ :: cs₀) with
        | some (v, cs') => K (a0.put (some r) v) cs' w
        | none => K (a0.put (some r) .nilIface) (c₀ :: cs₀) w) := by
    intro K hK
    rcases hfd with ⟨rfl, rfl, rfl⟩ | ⟨rfl, rfl⟩
    · have e1 : recoverD (c₀ :: cs₀) = none := by simp only [recoverD, hu]
      have e2 : ({ c₀ with mode := .returning } : Frame) = c₀ := by cases c₀; simp only at hu; subst hu; rfl
      rw [e2] at hK
      rw [e1]; exact hK
    · have e1 : recoverD (c₀ :: cs₀) = some (c, { c₀ with mode := .panicking [{ v := c, recovered := true }] } :: cs₀) := by simp only [recoverD, hu]
      rw [e1]; exact hK
  -- the rest
  have hrest : ∀ a1, a1.defers = [] → SRel ⟨gn.ntmps, recVars args r av ex, H, []⟩ ι a1 w →
      D.wpS P (bodyPostS P gn c₀ cs₀ fun e u1 w' => (∃ v, e = .returned v) ∧ u1 = u' ∧ ∃ ι', Rel ⟨σ'.H, ι', w'⟩ ∧ Ev ⟨H, ι, w⟩ ⟨σ'.H, ι', w'⟩ ∧ Non ⟨H, ι, w⟩ ⟨σ'.H, ι', w'⟩) a1 ({ c₀ with mode := u' } :: cs₀) w := by
    intro a1 ha1 hs1
    have h := hrun _ ι a1 w hs1 ha1 []
    rw [act_self ha1] at h
    refine wpS_of_wp (wpIn_wide.1 (wpIn_mono (F := Fr none) (n := 0) h ?_))
    rintro e a' w' ⟨hd, ι', hx', hs', hev, hnon⟩
    have hd' : ({ a' with defers := [] } : Act) = a' := act_self hd
    rw [hd'] at hs'
    obtain ⟨v, hv', _⟩ := results_run (P := P) (fn := gn) (vs := []) hs' (by rw [hres]; rfl)
    have fin : a'.defers = [] ∧ ∃ u1, ({ c₀ with mode := u' } :: cs₀ : List Frame) = { c₀ with mode := u1 } :: cs₀ ∧ ∃ v, (results gn a'.tmps).run P w' = .ok v w' ∧
        ((∃ v', Ending.returned v = .returned v') ∧ u1 = u' ∧ ∃ ι', Rel ⟨σ'.H, ι', w'⟩ ∧ Ev ⟨H, ι, w⟩ ⟨σ'.H, ι', w'⟩ ∧ Non ⟨H, ι, w⟩ ⟨σ'.H, ι', w'⟩) :=
      ⟨hd, u', rfl, v, hv', ⟨v, rfl⟩, rfl, ι', hs'.rel, hev, hnon⟩
    rcases hy with rfl | rfl <;> cases e <;> first | exact fin | exact hx'.elim
  refine wpS_seq (wpS_region ?_)
  cases ex with
  | none =>
    show wpOpsS P _ _ [0] a0 (c₀ :: cs₀) w
    exact hrec (fun a cs w => wpOpsS P _ _ [] a cs w) (hrest _ (by rw [Act.put_defers]; exact ha0) (hs0.put2 hv hr))
  | some q =>
    obtain ⟨x, ty2, pos2, aft2⟩ := q
    show wpOpsS P _ _ [0, 1] a0 (c₀ :: cs₀) w
    refine hrec (fun a cs w => wpOpsS P _ _ [1] a cs w) ?_
    have hs1 := hs0.put2 hv hr
    have hc1 : (a0.put (some r) c).eval (.tmp r) = c := by
      have hz : r < a0.tmps.size := by rw [hs0.size]; exact hr
      simp [Act.put, Act.eval, hz]
    have e1 : (execOp (a0.put (some r) c).eval ⟨some x, .assign (.tmp r), ty2, pos2, aft2, none⟩).run P w = .ok (.value c) w := by
      show Result.ok (Next.value ((a0.put (some r) c).eval (.tmp r))) w = _
      rw [hc1]
    have e2 : (recOps r ty pos ats aft (some (x, ty2, pos2, aft2)))[1]? = some ⟨some x, .assign (.tmp r), ty2, pos2, aft2, none⟩ := rfl
    unfold wpOpsS
    rw [e2]
    simp only []
    rw [if_pos (by rfl), e1]
    simp only [Oper.upon_value]
    show Exit.thenS _ _ .normal _ _ _
    exact hrest _ (by rw [Act.put_defers, Act.put_defers]; exact ha0) (hs1.put2 hv (hx _ rfl))
theorem ACall.deferred {f g : FuncId} {fn gn : Func} {i1 i0 : Nat} {d1 r : Tmp} {ty1 ty2 ty : TypeId} {p1 p2 pos : String} {f1 f2 aft : Array Edge} {ats : Array TypeId} {caps : Array Operand} {ex : Option (Tmp × TypeId × String × Array Edge)} {A C D : Code}
  {args capA : List AV} {H : List Blk} {av : AV} {vs : List AV} {σ0 σ2 σ3 : St} {x y : AExit}
  (hf : P.funcs[f]? = some fn) (hn : args.length ≤ fn.ntmps) (hg : P.funcs[g]? = some gn) (hcal : callable P g = true)
  (hb : fn.body = some (.seq A (.seq (.region i1 #[⟨some d1, .makeFunc (.func g) #[] caps, ty1, p1, f1, none⟩, ⟨none, .defer ⟨.value (.tmp d1), #[], #[]⟩, ty2, p2, f2, none⟩] false) C)))
  (hgb : gn.body = some (.seq (.region i0 (recOps r ty pos ats aft ex) false) D)) (hgr : gn.results = #[]) (hr : r < gn.ntmps) (hxx : ∀ x, ex = some x → x.1 < gn.ntmps) (hgn : capA.length ≤ gn.ntmps) (hd1 : d1 < fn.ntmps)
  (hA : Run0 P A ⟨fn.ntmps, initVars 0 args, H, []⟩ .normal σ0) (h0 : σ0.n = fn.ntmps) (hcaps : aevs σ0.eval caps.toList = some capA)
  (hC : Run0 P C { σ0 with vars := set σ0.vars d1 (.fn (.func g) [] capA) } x σ2) (hx : ((x = .ret ∨ x = .normal) ∧ av = .lit .nilIface) ∨ x = .pan av)
  (hD : Run0 P D ⟨gn.ntmps, recVars capA r av ex, σ2.H, []⟩ y σ3) (hy : y = .ret ∨ y = .normal) (hres : resA P { σ2 with H := σ3.H } fn.results.toList = some vs) :
  ACall P f args H (.ret (resV vs)) σ3.H := by
 intro O ι w cs hR hargs
 have hlen := hargs.length
 simp only [Array.length_toList] at hlen
 refine callsIn_wide.2 (calls_of_wp_defers hf hb ?_)
 obtain ⟨a0, he0⟩ : ∃ a0 : Act, a0 = { tmps := cs ++ Array.replicate (fn.ntmps - cs.size) undef, defers := [] } := ⟨_, rfl⟩
 have hs0 : SRel ⟨fn.ntmps, initVars 0 args, H, []⟩ ι a0 w := by
  subst he0
  exact ⟨hR, by simp; omega, init_vars hargs, rfl⟩
 have ha0 : a0.defers = [] := by rw [he0]
 rw [← he0]
 clear he0
 refine wp_seq (wpIn_wide.1 (wpIn_mono (F := Fr none) (n := 0) (act_self ha0 ▸ hA _ ι a0 w hs0 ha0 []) ?_))
 rintro e1 a1 w1 ⟨hdf1, ι1, hx1, hs1, hev1, hnon1⟩
 rw [act_self hdf1] at hs1
 cases e1 <;> try exact hx1.elim
 show Code.wp P _ _ a1 w1
 -- the closure
 refine wp_seq (wpIn_wide.1 (wpIn_region (F := Fr none) (n := 0) ?_))
 obtain ⟨cc, hcc⟩ : ∃ cc : Array Value, cc = caps.map a1.eval := ⟨_, rfl⟩
 have hcapR : VRels ⟨σ0.H, ι1, w1⟩ capA cc.toList := by
  have := aevs_sound (St.eval_sound hs1) hcaps
  rw [hcc]; simpa using this
 have hz : d1 < a1.tmps.size := by rw [hs1.size, h0]; exact hd1
 have hs1' := hs1.put2 (d := d1) (v := .fn (.func g) [] capA) (c := .func (.func g) #[] cc) (by
  simp only [VRel]
  exact ⟨#[], cc, rfl, by simp [VRels], hcapR⟩) (by rw [h0]; exact hd1)
 have ev1 : (a1.put (some d1) (.func (.func g) #[] cc)).eval (.tmp d1) = .func (.func g) #[] cc := by simp [Act.put, Act.eval, hz]
 have hd1' : (a1.put (some d1) (.func (.func g) #[] cc)).defers = [] := by rw [Act.put_defers]; exact hdf1
 show wpOpsIn (Fr none) 0 P _ _ [0, 1] a1 w1
 rw [wpOpsIn_cons]
 unfold wpOpIn
 simp only [show (#[⟨some d1, .makeFunc (.func g) #[] caps, ty1, p1, f1, none⟩, ⟨none, .defer ⟨.value (.tmp d1), #[], #[]⟩, ty2, p2, f2, none⟩] : Array Oper)[0]? = some ⟨some d1, .makeFunc (.func g) #[] caps, ty1, p1, f1, none⟩ from rfl]
 rw [if_pos (by rfl)]
 refine ⟨fun _ _ => trivial, ?_⟩
 rw [show ((⟨some d1, .makeFunc (.func g) #[] caps, ty1, p1, f1, none⟩ : Oper).semAt (Fr none).round a1.eval).run P w1 = .ok (.value (.func (.func g) #[] cc)) w1 by
  rw [hcc, show (Fr none).round = none from rfl, Oper.semAt_none]
  simp only [execOp, Array.map_empty]
  rw [Sem.run_bind]
  rfl]
 simp only [Oper.uponIn_value]
 generalize a1.put (some d1) (.func (.func g) #[] cc) = a2 at hs1' ev1 hd1' ⊢
 rw [wpOpsIn_cons]
 unfold wpOpIn
 simp only [show (#[⟨some d1, .makeFunc (.func g) #[] caps, ty1, p1, f1, none⟩, ⟨none, .defer ⟨.value (.tmp d1), #[], #[]⟩, ty2, p2, f2, none⟩] : Array Oper)[1]? = some ⟨none, .defer ⟨.value (.tmp d1), #[], #[]⟩, ty2, p2, f2, none⟩ from rfl]
 rw [if_pos (by rfl)]
 refine ⟨fun _ _ => trivial, ?_⟩
 rw [show ((⟨none, .defer ⟨.value (.tmp d1), #[], #[]⟩, ty2, p2, f2, none⟩ : Oper).semAt (Fr none).round a2.eval).run P w1 = .ok (.defer { target := .fn (.func g) cc, args := #[] }) w1 by
  rw [show (Fr none).round = none from rfl, Oper.semAt_none]
  simp only [execOp, resolve, Array.map_empty]
  rw [ev1, Sem.run_bind]
  rfl]
 simp only [Oper.uponIn_defer]
 show Code.wp P C _ ({ a2 with defers := { target := .fn (.func g) cc, args := #[] } :: a2.defers }) w1
 rw [hd1']
 refine wpIn_wide.1 (wpIn_mono (F := Fr none) (n := 0) (hC _ ι1 a2 w1 hs1' hd1' _) ?_)
 rintro e2 a3 w3 ⟨hdf3, ι3, hx3, hs3, hev3, hnon3⟩
 -- the deferred call
 have hcap3 : VRels ⟨σ2.H, ι3, w3⟩ capA cc.toList := hcapR.ev hev3
 have last : ∀ u c u', RecAs u c u' → VRel ⟨σ2.H, ι3, w3⟩ av c → Leaves P fn a3.tmps (EPost ⟨H, ι, w⟩ (.ret (resV vs)) σ3.H) a3.defers u w3 := by
  intro u c u' hfd hv
  rw [hdf3]
  refine leaves_cons (f := g) (args := #[] ++ cc) hfd.ne_run (run_callFunc hcal _ _) ?_
  refine (callsD_rec hg hgb hgr hr hxx hs3.rel (cs := #[] ++ cc) (by simpa using hcap3) hgn hv hfd hD hy).mono ?_
  rintro e u1 w4 ⟨⟨v, rfl⟩, rfl, ι4, hR4, hev4, hnon4⟩
  show Leaves P fn a3.tmps _ [] (settle _) w4
  rw [hfd.settle]
  have hs4 : SRel { σ2 with H := σ3.H } ι4 { a3 with defers := [] } w4 := ⟨hR4, hs3.size, hs3.vars.ev hev4, hs3.defs⟩
  obtain ⟨c4, hc4, hr4⟩ := results_run hs4 hres
  exact ⟨c4, hc4, ι4, hr4, hR4, (hev1.trans hev3).trans hev4, (hnon1.trans hev1 hnon3).trans (hev1.trans hev3) hnon4⟩
 rcases hx with ⟨hx, rfl⟩ | rfl
 ·have hl := last .returning .nilIface .returning (.inl ⟨rfl, rfl, rfl⟩) (by simp only [VRel])
  rcases hx with rfl | rfl <;> cases e2 <;> first | exact hl | exact hx3.elim
 ·cases e2 with
  | panic chain =>
   obtain ⟨c, rfl, hv⟩ := hx3
   exact last _ c _ (.inr ⟨rfl, rfl⟩) hv
  | _ => exact hx3.elim
end Go.Vm

namespace Go.Vm
variable {P : Program}
noncomputable section
def noRound0 : RoundT := fun _ _ _ _ => .fail "round"
def evS (P : Program) (call : CallT) (k : Nat) (c : Code) : Trie AV → Trie Blk → Nat → Nat → ER :=
 Code.rec (motive := fun _ => Trie AV → Trie Blk → Nat → Nat → ER)
  (fun vars t n lo => .ok .normal ⟨vars, t, n, []⟩ lo)
  (fun _ ops draw vars t n lo => match draw with
   | true => .fail "simple"
   | false => evOps P false call noRound0 k [] ops ops.toList vars t n lo)
  (fun _ _ iha ihb vars t n lo => match iha vars t n lo with
   | .ok .normal e lo' => match e.defs with
    | [] => ihb e.vars e.t e.n lo'
    | _ => .fail "simple"
   | r => r)
  (fun c _ _ iha ihb vars t n lo => match evalT vars c with
   | some (.lit (.bool true)) => iha vars t n lo
   | some (.lit (.bool false)) => ihb vars t n lo
   | _ => .fail "simple")
  (fun i _ ih vars t n lo => match ih vars t n lo with
   | .ok (.exit j) e lo' => bif Nat.beq i j then .ok .normal e lo' else .ok (.exit j) e lo'
   | r => r)
  (fun _ _ _ _ _ _ => .fail "simple")
  (fun _ _ _ _ _ _ _ _ _ _ => .fail "simple")
  (fun i vars t n lo => .ok (.exit i) ⟨vars, t, n, []⟩ lo)
  (fun _ _ _ _ _ _ => .fail "simple")
  (fun _ _ _ _ _ => .fail "simple")
  (fun _ _ _ _ _ => .fail "simple")
  (fun vars t n lo => .ok .ret ⟨vars, t, n, []⟩ lo)
  (fun _ _ _ _ _ => .fail "simple")
  c
theorem evS_sound {call : CallT} {k : Nat} (hc : SoundC P call) : ∀ (c : Code) vars t n lo H H0, HT t n H → Keep H0 H lo →
  ER.holds k H0 (fun x σ' => Run0 P c ⟨k, vars, H, []⟩ x σ') (evS P call k c vars t n lo) := by
 have hr : SoundR P noRound0 := fun _ _ _ _ => trivial
 intro c
 induction c with
 | skip => intro vars t n lo H H0 hH hk; exact ⟨H, hH, hk, .skip⟩
 | region id ops draw =>
  intro vars t n lo H H0 hH hk
  cases draw with
  | true => trivial
  | false =>
   show ER.holds k H0 _ (evOps P false call noRound0 k [] ops ops.toList vars t n lo)
   refine ER.holds_mono (evOps_sound (ops := ops) hc hr ops.toList 0 (fun j => by simp) vars t n lo H hH hk) ?_
   rintro x σ (⟨rfl, h⟩ | ⟨v, rfl, h⟩)
   ·exact Run0.region (by simpa [List.range_eq_range'] using h)
   ·exact Run0.region_pan (by simpa [List.range_eq_range'] using h)
 | seq a b iha ihb =>
  intro vars t n lo H H0 hH hk
  have h1 := iha vars t n lo H H0 hH hk
  show ER.holds k H0 _ (match evS P call k a vars t n lo with | .ok .normal e lo' => (match e.defs with | [] => evS P call k b e.vars e.t e.n lo' | _ => .fail "simple") | r => r)
  generalize evS P call k a vars t n lo = r at h1 ⊢
  cases r with
  | fail w => trivial
  | ok x e lo' =>
   obtain ⟨H1, hH1, hk1, q⟩ := h1
   cases x with
   | normal =>
    obtain ⟨ev, et, en, ed⟩ := e
    cases ed with
    | nil => exact ER.holds_mono (ihb ev et en lo' H1 H0 hH1 hk1) fun x σ h => .seq q h
    | cons _ _ => trivial
   | _ => exact ⟨H1, hH1, hk1, .seq_out q rfl⟩
 | cond c a b iha ihb =>
  intro vars t n lo H H0 hH hk
  show ER.holds k H0 _ (match evalT vars c with | some (.lit (.bool true)) => evS P call k a vars t n lo | some (.lit (.bool false)) => evS P call k b vars t n lo | _ => .fail "simple")
  split
  ·rename_i he
   rw [evalT_eq k vars H []] at he
   exact ER.holds_mono (iha vars t n lo H H0 hH hk) fun x σ h => .cond he h
  ·rename_i he
   rw [evalT_eq k vars H []] at he
   exact ER.holds_mono (ihb vars t n lo H H0 hH hk) fun x σ h => .cond he h
  ·trivial
 | block i c ih =>
  intro vars t n lo H H0 hH hk
  have h1 := ih vars t n lo H H0 hH hk
  show ER.holds k H0 _ (match evS P call k c vars t n lo with | .ok (.exit j) e lo' => bif Nat.beq i j then .ok .normal e lo' else .ok (.exit j) e lo' | r => r)
  generalize evS P call k c vars t n lo = r at h1 ⊢
  cases r with
  | fail w => trivial
  | ok x e lo' =>
   obtain ⟨H1, hH1, hk1, q⟩ := h1
   cases x with
   | normal => exact ⟨H1, hH1, hk1, .block q (.inl rfl)⟩
   | exit j =>
    simp only
    cases hb : Nat.beq i j with
    | true =>
     have := Nat.eq_of_beq_eq_true hb
     subst this
     exact ⟨H1, hH1, hk1, .block q (.inr rfl)⟩
    | false =>
     refine ⟨H1, hH1, hk1, .block_out q ?_⟩
     have : j ≠ i := by rintro rfl; rw [Nat.beq_refl] at hb; cases hb
     simp [AExit.passes, this]
   | ret => exact ⟨H1, hH1, hk1, .block_out q rfl⟩
   | pan v => exact ⟨H1, hH1, hk1, .block_out q rfl⟩
 | loop c ih => intro vars t n lo H H0 hH hk; trivial
 | rangeFunc g ps assign body _ _ => intro vars t n lo H H0 hH hk; trivial
 | exit i => intro vars t n lo H H0 hH hk; exact ⟨H, hH, hk, .exit⟩
 | scope c ih => intro vars t n lo H H0 hH hk; trivial
 | label l => intro vars t n lo H H0 hH hk; trivial
 | goto l => intro vars t n lo H H0 hH hk; trivial
 | ret => intro vars t n lo H H0 hH hk; exact ⟨H, hH, hk, .ret⟩
 | refuse w => intro vars t n lo H H0 hH hk; trivial
structure Defd where
 fn : Func
 gn : Func
 f : FuncId
 g : FuncId
 A : Code
 C : Code
 D : Code
 d1 : Tmp
 caps : List Operand
 r : Tmp
 ex : Option (Tmp × TypeId × String × Array Edge)
structure Defd.Ok (P : Program) (X : Defd) : Prop where
 hf : P.funcs[X.f]? = some X.fn
 hg : P.funcs[X.g]? = some X.gn
 hcal : callable P X.g = true
 hb : ∃ i1 ty1 p1 f1 ty2 p2 f2, X.fn.body = some (.seq X.A (.seq (.region i1 #[⟨some X.d1, .makeFunc (.func X.g) #[] X.caps.toArray, ty1, p1, f1, none⟩, ⟨none, .defer ⟨.value (.tmp X.d1), #[], #[]⟩, ty2, p2, f2, none⟩] false) X.C))
 hgb : ∃ i0 ty pos ats aft, X.gn.body = some (.seq (.region i0 (recOps X.r ty pos ats aft X.ex) false) X.D)
 hgr : X.gn.results = #[]
 hr : X.r < X.gn.ntmps
 hxx : ∀ x, X.ex = some x → x.1 < X.gn.ntmps
 hd1 : X.d1 < X.fn.ntmps
def tryFin (P : Program) (X : Defd) (call : CallT) (capA : List AV) (t : Trie Blk) (n : Nat) (av : AV) (e2 : ES) (lo2 : Nat) : CR :=
 let fin := fun (e3 : ES) (lo3 : Nat) => match resT P (get e3.t) e2.vars X.fn.results.toList with
  | none => CR.fail "defer"
  | some vs => bif Nat.ble n lo3 && AV.underB n (resV vs) then .ret (resV vs) t n lo3 else .ret (resV vs) e3.t e3.n lo3
 match evS P call X.gn.ntmps X.D (recVars capA X.r av X.ex) e2.t e2.n lo2 with
 | .ok .ret e3 lo3 => fin e3 lo3
 | .ok .normal e3 lo3 => fin e3 lo3
 | .fail w => .fail w
 | _ => .fail "defer"
def tryD (P : Program) (X : Defd) : CallT → CallT := fun call _ args t n =>
  bif Nat.ble args.length X.fn.ntmps then
    match evS P call X.fn.ntmps X.A (initVars 0 args) t n noLo with
    | .ok .normal e0 lo0 => match e0.defs with
      | [] => match aevs (evalT e0.vars) X.caps with
        | some capA => bif Nat.ble capA.length X.gn.ntmps then
            match evS P call X.fn.ntmps X.C (set e0.vars X.d1 (.fn (.func X.g) [] capA)) e0.t e0.n lo0 with
            | .ok .ret e2 lo2 => tryFin P X call capA t n (.lit .nilIface) e2 lo2
            | .ok .normal e2 lo2 => tryFin P X call capA t n (.lit .nilIface) e2 lo2
            | .ok (.pan v) e2 lo2 => tryFin P X call capA t n v e2 lo2
            | .fail w => .fail w
            | _ => .fail "defer"
          else .fail "defer"
        | none => .fail "defer"
      | _ => .fail "defer"
    | .fail w => .fail w
    | _ => .fail "defer"
  else .fail "defer"
end
theorem tryFin_right {X : Defd} (hX : X.Ok P) {call : CallT} (hc : SoundC P call) {args : List AV} {t : Trie Blk} {n : Nat} (hn : args.length ≤ X.fn.ntmps) {capA : List AV} (hcn : capA.length ≤ X.gn.ntmps) {e2 : ES} {lo2 : Nat} {av : AV} {x : AExit}
    (hx : ((x = .ret ∨ x = .normal) ∧ av = .lit .nilIface) ∨ x = .pan av)
    (h : ∀ H, HT t n H → ∃ H2 σ0, HT e2.t e2.n H2 ∧ Keep H H2 lo2 ∧ Run0 P X.A ⟨X.fn.ntmps, initVars 0 args, H, []⟩ .normal σ0 ∧ σ0.n = X.fn.ntmps ∧ aevs σ0.eval X.caps = some capA ∧
      Run0 P X.C { σ0 with vars := set σ0.vars X.d1 (.fn (.func X.g) [] capA) } x ⟨X.fn.ntmps, e2.vars, H2, e2.defs⟩) : CRok P X.f args t n (tryFin P X call capA t n av e2 lo2) := by
  unfold tryFin
  have hD : ∀ H2 H0, HT e2.t e2.n H2 → Keep H0 H2 lo2 → ER.holds X.gn.ntmps H0 (fun x σ' => Run0 P X.D ⟨X.gn.ntmps, recVars capA X.r av X.ex, H2, []⟩ x σ') (evS P call X.gn.ntmps X.D (recVars capA X.r av X.ex) e2.t e2.n lo2) :=
    fun H2 H0 a b => evS_sound hc X.D _ _ _ _ H2 H0 a b
  generalize evS P call X.gn.ntmps X.D (recVars capA X.r av X.ex) e2.t e2.n lo2 = r at hD ⊢
  have key : ∀ y e3 lo3, r = .ok y e3 lo3 → (y = .ret ∨ y = .normal) → CRok P X.f args t n (match resT P (get e3.t) e2.vars X.fn.results.toList with
      | none => CR.fail "defer"
      | some vs => bif Nat.ble n lo3 && AV.underB n (resV vs) then .ret (resV vs) t n lo3 else .ret (resV vs) e3.t e3.n lo3) := by
    intro y e3 lo3 hr hy
    subst hr
    cases hres : resT P (get e3.t) e2.vars X.fn.results.toList with
    | none => trivial
    | some vs =>
    simp only
    have main : ∀ H, HT t n H → ∃ H3, HT e3.t e3.n H3 ∧ Keep H H3 lo3 ∧ ACall P X.f args H (.ret (resV vs)) H3 := by
      intro H hH
      obtain ⟨H2, σ0, hH2, hk2, hA, h0, hcaps, hC⟩ := h H hH
      obtain ⟨H3, hH3, hk3, hD3⟩ := hD H2 H hH2 hk2
      obtain ⟨i1, ty1, p1, f1, ty2, p2, f2, hb⟩ := hX.hb
      obtain ⟨i0, ty, pos, ats, aft, hgb⟩ := hX.hgb
      exact ⟨H3, hH3, hk3, ACall.deferred hX.hf hn hX.hg hX.hcal hb hgb hX.hgr hX.hr hX.hxx hcn hX.hd1 hA h0 (by simpa using hcaps) hC hx hD3 hy (resT_sound hH3 hres)⟩
    cases hcut : (Nat.ble n lo3 && AV.underB n (resV vs)) with
    | true =>
      rw [Bool.and_eq_true] at hcut
      have hle := Nat.le_of_ble_eq_true hcut.1
      intro H hH
      obtain ⟨H', _, hk2, hcall⟩ := main H hH
      have hl := hH.len
      exact ⟨H, hH, hcall.cut_same (by rw [hl]; exact underB_iff.1 _ hcut.2) (fun id hlt => hk2.low id (by omega) hlt) hk2.le, Keep.refl _ _⟩
    | false =>
      intro H hH
      obtain ⟨H', hs, hk2, hcall⟩ := main H hH
      exact ⟨_, hs, hcall, hk2⟩
  cases r with
  | fail w => trivial
  | ok y e3 lo3 =>
    cases y with
    | normal => exact key _ _ _ rfl (.inr rfl)
    | ret => exact key _ _ _ rfl (.inl rfl)
    | _ => trivial
theorem tryD_right {X : Defd} (hX : X.Ok P) {call : CallT} (hc : SoundC P call) (args : List AV) (t : Trie Blk) (n : Nat) : CRok P X.f args t n (tryD P X call X.f args t n) := by
 unfold tryD
 cases hn : Nat.ble args.length X.fn.ntmps with
 | false => trivial
 | true =>
 simp only [cond_true]
 have hn := Nat.le_of_ble_eq_true hn
 have hA : ∀ H H0, HT t n H → Keep H0 H noLo → ER.holds X.fn.ntmps H0 (fun x σ' => Run0 P X.A ⟨X.fn.ntmps, initVars 0 args, H, []⟩ x σ') (evS P call X.fn.ntmps X.A (initVars 0 args) t n noLo) :=
  fun H H0 a b => evS_sound hc X.A _ _ _ _ H H0 a b
 generalize evS P call X.fn.ntmps X.A (initVars 0 args) t n noLo = r0 at hA ⊢
 cases r0 with
 | fail w => trivial
 | ok x0 e0 lo0 =>
 cases x0 with
 | normal =>
  obtain ⟨v0, t0, n0, d0⟩ := e0
  cases d0 with
  | cons _ _ => trivial
  | nil =>
  simp only
  cases hcaps : aevs (evalT v0) X.caps with
  | none => trivial
  | some capA =>
  simp only
  cases hcn : Nat.ble capA.length X.gn.ntmps with
  | false => trivial
  | true =>
  simp only [cond_true]
  have hcn := Nat.le_of_ble_eq_true hcn
  have hC : ∀ H H0, HT t0 n0 H → Keep H0 H lo0 → ER.holds X.fn.ntmps H0 (fun x σ' => Run0 P X.C ⟨X.fn.ntmps, set v0 X.d1 (.fn (.func X.g) [] capA), H, []⟩ x σ') (evS P call X.fn.ntmps X.C (set v0 X.d1 (.fn (.func X.g) [] capA)) t0 n0 lo0) :=
   fun H H0 a b => evS_sound hc X.C _ _ _ _ H H0 a b
  generalize evS P call X.fn.ntmps X.C (set v0 X.d1 (.fn (.func X.g) [] capA)) t0 n0 lo0 = r2 at hC ⊢
  have key : ∀ x e2 lo2 av, r2 = .ok x e2 lo2 → (((x = .ret ∨ x = .normal) ∧ av = .lit .nilIface) ∨ x = .pan av) → CRok P X.f args t n (tryFin P X call capA t n av e2 lo2) := by
   intro x e2 lo2 av hr hx
   subst hr
   refine tryFin_right hX hc hn hcn hx fun H hH => ?_
   obtain ⟨H1, hH1, hk1, hA1⟩ := hA H H hH (Keep.refl _ _)
   obtain ⟨H2, hH2, hk2, hC2⟩ := hC H1 H hH1 hk1
   exact ⟨H2, _, hH2, hk2, hA1, rfl, by rw [← evalT_eq]; exact hcaps, hC2⟩
  cases r2 with
  | fail w => trivial
  | ok x e2 lo2 =>
   cases x with
   | normal => exact key _ _ _ _ rfl (.inl ⟨.inr rfl, rfl⟩)
   | ret => exact key _ _ _ _ rfl (.inl ⟨.inl rfl, rfl⟩)
   | pan v => exact key _ _ _ _ rfl (.inr rfl)
   | _ => trivial
 | _ => trivial
end Go.Vm
