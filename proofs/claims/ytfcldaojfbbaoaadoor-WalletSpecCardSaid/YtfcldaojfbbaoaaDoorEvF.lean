/- Part 6 of the evaluator of the given model: its rules and their soundness (no condition). -/
import Derived.Test.YtfcldaojfbbaoaaDoorEvE
set_option linter.unusedVariables false
set_option linter.unusedSimpArgs false
set_option linter.unnecessarySimpa false
/- Code. -/
namespace Ev
open Go (Value Addr Fn IntKind World Sem Program Operand Oper Result Act Ending Fence CallsIn RoundIn Exit Deferred Code wpOpsIn wpAnyIn)

section
variable {P : Program} {E : Env} {B : Cx} {w0 : World} {N : Nat}

theorem SlotsOK.know {C : Cx} {tmps : List AV} {vs : Array Value} (hs : SlotsOK C tmps vs) (t : Nat) {v : AV} (hv : AVal C v (vs.getD t Go.undef)) : SlotsOK C (tmps.set t v) vs := by
  refine ⟨by simpa using hs.1, fun i => ?_⟩
  rw [List.getD_eq_getElem?_getD, List.getElem?_set]
  by_cases hdi : t = i
  · subst hdi
    by_cases hd : t < tmps.length
    · simpa [hd] using hv
    · simp [hd, AVal.unk]
  · have := hs.2 i
    rw [List.getD_eq_getElem?_getD] at this
    simpa [hdi] using this

theorem unpack_fold {C : Cx} {tv : Array Value} : ∀ (live : List Nat) (vs : List AV) (l : List AV), AVs C vs (live.map fun t => tv.getD t Go.undef) → SlotsOK C l tv →
    SlotsOK C ((live.zip vs).foldl (fun l y => l.set y.1 y.2) l) tv
  | [], vs, l, _, hl => by simpa using hl
  | t :: live, [], l, h, hl => by simp [AVs] at h
  | t :: live, v :: vs, l, h, hl => by
    simp only [List.map_cons, AVs] at h
    obtain ⟨x, r, he, h1, h2⟩ := h
    cases he
    simp only [List.zip_cons_cons, List.foldl_cons]
    exact unpack_fold live vs _ h2 (hl.know t h1)

theorem unpack_ok {C : Cx} {tv : Array Value} {n : Nat} (hn : n ≤ tv.size) {live : List Nat} {vs : List AV} (h : AVs C vs (live.map fun t => tv.getD t Go.undef)) (H : Heap) : SlotsOK C (unpack n live ⟨vs, H⟩).tmps tv :=
  unpack_fold live vs _ h ⟨by simpa using hn, fun i => by
    rw [List.getD_eq_getElem?_getD, List.getElem?_replicate]
    split <;> exact AVal.unk⟩

theorem live_ok {C : Cx} {tmps : List AV} {tv : Array Value} (hs : SlotsOK C tmps tv) (live : List Nat) : AVs C (live.map fun t => tmps.getD t .unk) (live.map fun t => tv.getD t Go.undef) :=
  AVs.map _ _ (fun t => hs.2 t) live

theorem pack_ok {n : Nat} (hn : n ≤ N) {s : St} {a : Act} {w : World} {ex : Ex} {e : Exit} (live : List Nat) (h : Out E P B w0 N ex s e a w) :
    Out E P B w0 N (packE B.H.length live ex s).1 (unpack n live (packE B.H.length live ex s).2) e a w := by
  obtain ⟨C, ok, hx, hH, hs, hN, hm, he⟩ := h
  have hb : B.H.length ≤ C.H.length := hx.le.len
  have hl := live_ok hs live
  have usual : (packE B.H.length live ex s) = (ex, pack B.H.length live s) → (∀ C' : Cx, ExOK C' ex e) →
      Out E P B w0 N (packE B.H.length live ex s).1 (unpack n live (packE B.H.length live ex s).2) e a w := by
    intro hp hex
    rw [hp]
    obtain ⟨C', g1, g2, g3, g4, g5, g6, g7, g8⟩ := gc_ok ok.sim hb hl
    rw [hH] at g4 g5
    refine ⟨C', ⟨ok.env, g3.trans ok.has, by rw [g2]; exact ok.glob, g1⟩, g8 B w0 rfl hx, ?_, unpack_ok (by rw [hN]; exact hn) g5 _, hN, hm.less g7, hex C'⟩
    exact g4
  cases ex with
  | normal => cases e <;> simp only [ExOK] at he; exact usual rfl fun _ => trivial
  | ret => cases e <;> simp only [ExOK] at he; exact usual rfl fun _ => trivial
  | exit id => cases e <;> simp only [ExOK] at he; exact usual rfl fun _ => he
  | panic v =>
    cases e <;> simp only [ExOK] at he
    obtain ⟨rv, rfl, hv⟩ := he
    obtain ⟨C', g1, g2, g3, g4, g5, g6, g7, g8⟩ := gc_ok ok.sim hb (roots := v :: live.map fun t => s.tmps.getD t .unk) (vals := rv :: live.map fun t => a.tmps.getD t Go.undef) (by simp only [AVs]; exact ⟨_, _, rfl, hv, hl⟩)
    rw [hH] at g4 g5
    simp only [packE]
    generalize hgc : gc B.H.length (v :: live.map fun t => s.tmps.getD t .unk) s.heap = r at g4 g5 ⊢
    obtain ⟨r1, r2⟩ := r
    simp only at g4 g5 ⊢
    cases r1 with
    | nil => simp [AVs] at g5
    | cons v' r1 =>
      simp only [AVs] at g5
      obtain ⟨x, y, hxy, h1, h2⟩ := g5
      cases hxy
      exact ⟨C', ⟨ok.env, g3.trans ok.has, by rw [g2]; exact ok.glob, g1⟩, g8 B w0 rfl hx, g4, unpack_ok (by rw [hN]; exact hn) h2 _, hN, hm.less g7, rv, rfl, h1⟩

theorem head_ok {n : Nat} (hn : n ≤ N) {s : St} {a : Act} {w : World} (live : List Nat) (h : At E P B w0 N s a w) : At E P B w0 N (unpack n live (enterN B.H.length (pack B.H.length live s))) a w := by
  obtain ⟨C, ok, hx, hH, hs, hN, hm, _⟩ := h
  have hb : B.H.length ≤ C.H.length := hx.le.len
  obtain ⟨C', g1, g2, g3, g4, g5, g6, g7, g8⟩ := gc_ok ok.sim hb (live_ok hs live)
  rw [hH] at g4 g5
  obtain ⟨C'', k1, k2, k3, k4, k5, k6⟩ := enter_ok g1 g5
  rw [g4] at k4 k5
  have ok' : Ok E P C' w := ⟨ok.env, g3.trans ok.has, by rw [g2]; exact ok.glob, g1⟩
  have ok2 := ok'.next k1 k6
  have hx2 := (g8 B w0 rfl hx).trans k6
  obtain ⟨D, d1, d2, d3, d4, d5, d6, d7, d8⟩ := gc_ok k1 hx2.le.len k5
  rw [k4] at d4 d5
  exact ⟨D, ⟨ok.env, d3.trans ok2.has, by rw [d2]; exact ok2.glob, d1⟩, d8 B w0 rfl hx2, d4, unpack_ok (by rw [hN]; exact hn) d5 _, hN, ((hm.less g7).step k6).less d7, trivial⟩

theorem iter_some {S R : Type} {step : S → Option (S ⊕ R)} {s : S} {r : R} (h : loopD step s = some r) : ∃ n, iter step n s = some r := by
  unfold loopD at h
  split at h
  · rename_i hx
    obtain ⟨n, hn⟩ := hx.choose_spec
    cases h
    exact ⟨n, hn⟩
  · cases h

theorem At.drawn {s : St} {a : Act} {w : World} (h : At E P B w0 N s a w) : At E P B w0 N s a { w with drawn := w.drawn + 1 } := by
  obtain ⟨C, ok, hx, hH, hs, hN, hm, _⟩ := h
  have hw : Ext C w C { w with drawn := w.drawn + 1 } := ⟨.refl C, fun _ _ _ h => .inl h, fun _ h => .inl h, fun _ _ _ => rfl, Nat.le_refl _, .drew w⟩
  exact ⟨C, ok.next (ok.sim.same fun _ _ => rfl) hw, hx.trans hw, hH, hs, hN, hm.step hw, trivial⟩

theorem region_ok {F : Fence} (hF : Wide F) {K : Sem'} (hK : KSound E P K) {id : Nat} {ops : Array Oper} {draw : Bool} {an : Ann} {Q : Exit → Act → World → Prop} {R : Type} {k : Ex → St → Option R} {r : R}
    (hk : ∀ ex s' e a' w', k ex s' = some r → Out E P B w0 N ex s' e a' w' → Q e a' w') {s : St} {a : Act} {w : World} (h : E.region K ops draw an s k = some r) (hat : At E P B w0 N s a w) :
    (Code.region id ops draw).wpIn F 0 P Q a w := by
  cases draw with
  | false =>
    unfold Env.region at h
    refine Go.wpIn_region ?_
    have := ops_ok hF hK hk ops.toList 0 rfl s a w h hat
    rwa [← List.range_eq_range'] at this
  | true =>
    have hat0 := hat
    obtain ⟨C, ok, _⟩ := hat0
    exact Go.wpIn_region_any ok.env.mixed (draw_ok hF hK hk h hat.drawn)

theorem loop_ok {F : Fence} {n : Nat} {c : Code} {Q : Exit → Act → World → Prop} {step : Pk → Option (Pk ⊕ (Ex × Pk))} {live out : List Nat} {res : Ex × Pk}
    (hbody : ∀ q x, step q = some x → ∀ a w, At E P B w0 N (unpack n live q) a w → ∀ Q' : Exit → Act → World → Prop,
      (∀ q' a' w', x = .inl q' → At E P B w0 N (unpack n live q') a' w' → Q' .normal a' w') →
      (∀ ex p e a' w', x = .inr (ex, p) → ex ≠ .normal → Out E P B w0 N ex (unpack n out p) e a' w' → Q' e a' w') → c.wpIn F 0 P Q' a w)
    (hQ : ∀ e a' w', Out E P B w0 N res.1 (unpack n out res.2) e a' w' → Q e a' w') :
    ∀ (m : Nat) (q : Pk), iter step m q = some res → ∀ a w, At E P B w0 N (unpack n live q) a w → (Code.loop c).wpIn F 0 P Q a w := by
  classical
  intro m q hm a w hat
  let J : Nat → Act → World → Prop := fun m a w => ∃ q, iter step m q = some res ∧ At E P B w0 N (unpack n live q) a w
  let μ : Act → World → Nat := fun a w => if h : ∃ m, J m a w then (exists_min' h).choose else 0
  refine Go.wpIn_loop (I := fun a w => ∃ m, J m a w) (μ := μ) ⟨m, q, hm, hat⟩ ?_
  rintro a w hI
  have hμ : μ a w = (exists_min' hI).choose := by simp only [μ]; rw [dif_pos hI]
  obtain ⟨q, hq, hat⟩ := (exists_min' hI).choose_spec.1
  rw [← hμ] at hq
  cases hm : μ a w with
  | zero => rw [hm] at hq; simp [iter] at hq
  | succ m =>
    rw [hm] at hq
    simp only [iter] at hq
    cases hs : step q with
    | none => simp [hs] at hq
    | some x =>
      refine hbody q x hs a w hat _ ?_ ?_
      · rintro q' a' w' rfl hat'
        simp only [hs] at hq
        have hJ : J m a' w' := ⟨q', hq, hat'⟩
        refine ⟨⟨m, hJ⟩, ?_⟩
        have : μ a' w' ≤ m := by
          simp only [μ]
          rw [dif_pos ⟨m, hJ⟩]
          exact (exists_min' ⟨m, hJ⟩).choose_spec.2 m hJ
        omega
      · rintro ex p e a' w' rfl hne ho
        simp only [hs, Option.some.injEq] at hq
        have : Q e a' w' := hQ e a' w' (by rw [← hq]; exact ho)
        cases e with
        | normal =>
          obtain ⟨C, _, _, _, _, _, _, he⟩ := ho
          cases ex <;> simp [ExOK] at he hne
        | _ => exact this

end
end Ev

/- Loops over functions: their records. -/
namespace Ev
open Go (Value Addr Fn IntKind World Sem Program Operand Oper Result Act Ending Fence CallsIn RoundIn Exit Deferred Code)

section
variable {P : Program} {E : Env}

theorem AVs.len {C : Cx} : ∀ {fs : List AV} {us : List Value}, AVs C fs us → fs.length = us.length
  | [], us, h => by simp only [AVs] at h; subst h; rfl
  | f :: fs, us, h => by simp only [AVs] at h; obtain ⟨v, r, rfl, _, h2⟩ := h; simp [AVs.len h2]

theorem AVs.slots {C : Cx} {fs : List AV} {vs : Array Value} (h : AVs C fs vs.toList) : SlotsOK C fs vs := by
  refine ⟨by rw [h.len]; simp, fun i => ?_⟩
  rw [List.getD_eq_getElem?_getD, Array.getD_eq_getD_getElem?]
  by_cases hi : i < fs.length
  · obtain ⟨v, h1, h2⟩ := AVs.get i fs[i] h (by simp [hi])
    rw [Array.getElem?_toList] at h1
    rw [h1]
    simpa [hi] using h2
  · simp [hi, AVal.unk]

theorem SlotsOK.avs {C : Cx} : ∀ {fs : List AV} {vs : List Value}, fs.length = vs.length → (∀ i, AVal C (fs.getD i .unk) (vs.getD i Go.undef)) → AVs C fs vs
  | [], [], _, _ => by simp [AVs]
  | f :: fs, v :: vs, hl, h => by
    simp only [AVs]
    exact ⟨v, vs, rfl, h 0, SlotsOK.avs (by simpa using hl) fun i => by simpa using h (i + 1)⟩
  | [], _ :: _, hl, _ => by simp at hl
  | _ :: _, [], hl, _ => by simp at hl

theorem params_ok {C : Cx} : ∀ (ps : List Go.Tmp) (args : List AV) (vs : List Value) (tmps : List AV) (tv : Array Value), ps.length = args.length → AVs C args vs → SlotsOK C tmps tv →
    SlotsOK C (setParams tmps ps args) ((ps.zip vs).foldl (fun t (x : Go.Tmp × Value) => t.setIfInBounds x.1 x.2) tv) ∧ ((ps.zip vs).foldl (fun t (x : Go.Tmp × Value) => t.setIfInBounds x.1 x.2) tv).size = tv.size
  | [], args, vs, tmps, tv, _, _, hs => by simpa [setParams] using hs
  | p :: ps, [], vs, tmps, tv, hl, _, _ => by simp at hl
  | p :: ps, a :: args, vs, tmps, tv, hl, h, hs => by
    simp only [AVs] at h
    obtain ⟨v, r, rfl, h1, h2⟩ := h
    obtain ⟨g1, g2⟩ := params_ok ps args r (tmps.set p a) (tv.setIfInBounds p v) (by simpa using hl) h2 (hs.put p h1)
    refine ⟨by simpa [setParams] using g1, by simpa using g2⟩

/-- A block turns that is nobody's. -/
theorem Sim.off {C : Cx} {w w' : World} (h : Sim C w) {blk : Nat} {o : Go.Obj} (hw : SetBlk w w' blk o) (hn : ¬ owned C.ι blk) (hm : ∀ j, C.M blk j = none) : Sim C w' := by
  have hne : ∀ b' off cap, C.ι b' = some (.at blk off cap) → False := fun b' off cap hi => hn ⟨b', off, cap, hi⟩
  have hrest : ∀ {b' b off cap}, C.ι b' = some (.at b off cap) → w'.heap[b]? = w.heap[b]? := fun {b' b off cap} hi => hw.rest b fun e => hne b' off cap (e ▸ hi)
  refine ⟨fun b o v hv => ?_, fun b loc hi => ?_, h.sep, h.open_, fun b blk off cap ob h1 h2 h3 => ?_, h.room⟩
  · have : b ≠ blk := fun e => by subst e; rw [hm o] at hv; cases hv
    rw [cell_same (hw.rest b this)]; exact h.agree b o v hv
  · obtain ⟨ob, ho, hr⟩ := h.obj b loc hi
    exact ⟨ob, ho, hr.world fun b' off cap e => by subst e; exact hrest hi⟩
  · obtain ⟨cs, X, fz, g1, g2⟩ := h.cover b blk off cap ob h1 h2 h3
    exact ⟨cs, X, fz, by rw [hrest h1]; exact g1, g2⟩

theorem putObj_set {w : World} {b : Nat} {x o : Go.Obj} (h : w.heap[b]? = some x) (h1 : noCells x := by trivial) (h2 : noCells o := by trivial) : SetBlk w (w.putObj b o) b o :=
  ⟨World.putObj_size, World.putObj_heap_same (Array.getElem?_eq_some_iff.1 h).1, fun _ hk => World.putObj_heap_other hk, quiet_put h h1 h2⟩

/-- A loop's record turns. -/
theorem Sim.setLoop {C : Cx} {w : World} (h : Sim C w) {l blk off cap : Nat} (hi : C.ι l = some (.at blk off cap)) {st : Nat} {pend : Option Jump} {fn : Nat} {tmps : List AV} {ps : Array Go.Tmp} {x y : Code} {an : Ann}
    (ho : C.H[l]? = some (.loop st pend fn tmps ps x y an)) : ∃ rec, w.heap[blk]? = some (.loop rec) ∧ rec.state = loopState st ∧ JumpRep pend rec.pending ∧ rec.params = ps ∧ rec.assign = x ∧ rec.body = y ∧ AVs C tmps rec.tmps.toList ∧
      ∀ st' pend' pd', JumpRep pend' pd' → Sim { C with H := C.H.set l (.loop st' pend' fn tmps ps x y an) } (w.putObj blk (.loop { rec with state := loopState st', pending := pd' })) ∧
        Ext C w { C with H := C.H.set l (.loop st' pend' fn tmps ps x y an) } (w.putObj blk (.loop { rec with state := loopState st', pending := pd' })) := by
  obtain ⟨o, ho', hr⟩ := h.obj l _ hi
  rw [ho] at ho'; cases ho'
  simp only [ObjRep] at hr
  obtain ⟨blk', df, vs, pd, gn, hl, h1, h2, h3, h4⟩ := hr
  cases hl
  refine ⟨_, h1, rfl, h2, rfl, rfl, rfl, h4, fun st' pend' pd' hj => ?_⟩
  have hset := putObj_set (o := .loop { state := loopState st', pending := pd', fn := gn, tmps := vs, params := ps, assign := x, body := y, defers := df }) h1
  have hle : C.le { C with H := C.H.set l (.loop st' pend' fn tmps ps x y an) } := setObj_le C l _ _ ho trivial
  exact h.setObj hi ho rfl trivial rfl hset (by
    simp only [ObjRep]
    exact ⟨_, df, vs, pd', gn, rfl, hset.here, hj, h3, AVs.mono hle _ _ h4⟩)

theorem Sim.addLoop {C : Cx} {w : World} (h : Sim C w) {fn gn df : Nat} {tmps : List AV} {vs : Array Value} (hv : AVs C tmps vs.toList) {ps : Array Go.Tmp} {x y : Code} {an : Ann} {w' : World} {blk : Nat} (hblk : w.heap.size ≤ blk)
    (hframe : ∀ b, b < w.heap.size → w'.heap[b]? = w.heap[b]?) (hgrow : w.heap.size ≤ w'.heap.size) (hq : Quiet w w')
    (hw : w'.heap[blk]? = some (.loop { state := .ready, pending := none, fn := gn, tmps := vs, params := ps, assign := x, body := y, defers := df })) :
    Calm C w (C.add (.at blk 0 0) (.loop 0 none fn tmps ps x y an)) w' [.loop 0 none fn tmps ps x y an] := by
  refine Calm.add h (fun b o c e => by cases e; exact hblk) hframe hgrow hq rfl fun hle => ?_
  simp only [ObjRep]
  exact ⟨blk, df, vs, none, gn, rfl, hw, .none, by simpa using hv.len, AVs.mono hle _ _ hv⟩

theorem rangeFunc_ok {B : Cx} {w0 : World} {N : Nat} {K : Sem'} (hK : KSound E P K) {fn : Nat} {f : Operand} {ps : Array Go.Tmp} {assign body : Code} {an : Ann} {R : Type} {s : St} {k : Ex → St → Option R} {r : R} {a : Act} {w : World} {Q : Exit → Act → World → Prop}
    (h : E.code K fn N B.H.length (.rangeFunc f ps assign body) an s k = some r) (hat : At E P B w0 N s a w)
    (hk : ∀ ex s' e a' w', k ex s' = some r → Out E P B w0 N ex s' e a' w' → Q e a' w') : (Code.rangeFunc f ps assign body).wpIn Fence.wide 0 P Q a w := by
  obtain ⟨C, ok, hx, hH, hs, hN, hm, _⟩ := hat
  simp only [Env.code] at h
  split at h
  · cases h
  rename_i hlen
  have hlen : s.tmps.length = N := by simpa using hlen
  split at h
  case h_2 => cases h
  rename_i g first cap hf
  simp only [Option.bind_eq_some_iff] at h
  obtain ⟨⟨r1, H1⟩, hr, h⟩ := h
  simp only at h
  have hfv := opnd_ok ok.glob hs f
  rw [hf] at hfv
  simp only [AVal, AR] at hfv
  obtain ⟨vf, vc, hfe, hvf, hvc⟩ := hfv
  have hfe : a.eval f = .func (.func g) vf.toArray vc.toArray := by simpa using hfe
  have htm : AVs C s.tmps a.tmps.toList := SlotsOK.avs (by simp [hlen, hN]) fun i => by
    have := hs.2 i
    rw [Array.getD_eq_getD_getElem?] at this
    rw [List.getD_eq_getElem?_getD (l := a.tmps.toList), Array.getElem?_toList]
    exact this
  refine Go.wpIn_rangeFunc fun fn' _ => ?_
  let w1 : World := (w.alloc (.deferred (some []))).alloc (.loop { state := .ready, pending := none, fn := fn', tmps := a.tmps, params := ps, assign, body, defers := w.heap.size })
  have hsz : w1.heap.size = w.heap.size + 2 := by show ((w.heap.push _).push _).size = _; simp
  have hframe : ∀ b, b < w.heap.size → w1.heap[b]? = w.heap[b]? := fun b hb => by
    show ((w.heap.push _).push _)[b]? = _
    rw [Array.getElem?_push, Array.getElem?_push]
    simp only [Array.size_push]
    rw [if_neg (by omega), if_neg (by omega)]
  have hloop : w1.heap[w.heap.size + 1]? = some (.loop { state := .ready, pending := none, fn := fn', tmps := a.tmps, params := ps, assign, body, defers := w.heap.size }) := by
    show ((w.heap.push _).push _)[w.heap.size + 1]? = _
    rw [Array.getElem?_push]
    simp
  have hmark : w1.heap[w.heap.size]? = some (.deferred (some [])) := by
    show ((w.heap.push _).push _)[w.heap.size]? = _
    rw [Array.getElem?_push, Array.getElem?_push]
    simp
  have hquiet : Quiet w w1 := (quiet_push w (.deferred (some []))).trans (quiet_push _ (.loop { state := .ready, pending := none, fn := fn', tmps := a.tmps, params := ps, assign, body, defers := w.heap.size }))
  have henter : (Go.Instr.enterLoop fn' a.tmps ps assign body none).run P w = .ok (w.heap.size + 1, [{ target := .collected w.heap.size, args := #[] }]) w1 := Go.run_enterLoop_outer fn' a.tmps ps assign body
  clear_value w1
  have hcalm := ok.sim.addLoop (fn := fn) (an := an) htm (blk := w.heap.size + 1) (by omega) hframe (by omega) hquiet hloop
  generalize hobj : Obj.loop 0 none fn s.tmps ps assign body an = o1 at hcalm hr
  have ok1 := ok.next hcalm.sim hcalm.ext
  generalize hC1 : C.add (.at (w.heap.size + 1) 0 0) o1 = C1 at hcalm ok1
  have hι1 : C1.ι C.H.length = some (.at (w.heap.size + 1) 0 0) := by rw [← hC1]; simp [Cx.add]
  have hH1 : C1.H = s.heap ++ [o1] := by rw [hcalm.heap, hH]
  have hyld : AVal C1 (.yld s.heap.length) (.func (.yield (w.heap.size + 1)) #[] #[]) := by
    simp only [AVal, AR]
    refine ⟨by rw [hH1]; simp, _, rfl, rfl, fun _ => ⟨w.heap.size + 1, 0, 0, by rw [← hH]; exact hι1, rfl⟩⟩
  have hargs : AVs C1 (first ++ [.yld s.heap.length] ++ cap) (vf ++ [.func (.yield (w.heap.size + 1)) #[] #[]] ++ vc) :=
    AVs.append (AVs.append (AVs.mono hcalm.le _ _ hvf) (by simp only [AVs]; exact ⟨_, _, rfl, hyld, rfl⟩)) (AVs.mono hcalm.le _ _ hvc)
  obtain ⟨⟨F, c, hF1, hF2, hF3⟩, hcall⟩ := hK.fn g _ _ r1 H1 C1 w1 _ hr ok1 hH1 hargs
  have hm1 : Marks w0.heap.size C1 w1 ({ target := .collected w.heap.size, args := #[] } :: a.defers) := by
    obtain ⟨rs, k1, k2, k3⟩ := hm.step hcalm.ext
    obtain ⟨rs', l1, l2, l3⟩ := hm
    have : rs = rs' := by
      have e := k1.symm.trans l1
      exact List.map_inj_right (fun x y h => by cases h; rfl) |>.1 e
    subst this
    refine ⟨w.heap.size :: rs, by simp [k1], List.nodup_cons.2 ⟨fun hin => ?_, k2⟩, fun r hr => ?_⟩
    · have := (Array.getElem?_eq_some_iff.1 (l3 _ hin).1).1; omega
    · rcases List.mem_cons.1 hr with rfl | hr
      · refine ⟨hmark, ?_, hx.grow⟩
        rintro ⟨b, off, cap, hi⟩
        rw [← hC1] at hi
        simp only [Cx.add] at hi
        split at hi
        · simp only [Option.some.injEq, Loc.at.injEq] at hi; omega
        · obtain ⟨o, _, hrep⟩ := ok.sim.obj b _ hi
          have := hrep.blk; omega
      · exact k3 r hr
  have hres : (Go.resolve a.eval (Go.rangeCall f (w.heap.size + 1)) 0).run P w1 = .ok { target := .fn (.func g) vc.toArray, args := vf.toArray ++ #[Value.func (.yield (w.heap.size + 1)) #[] #[]] } w1 := by
    simp only [Go.resolve, Go.Deferred.ofValue, hfe]
    simp [Act.eval]
  have hinv : (Go.invoke (.fn (.func g) vc.toArray) (vf.toArray ++ #[Value.func (.yield (w.heap.size + 1)) #[] #[]])).run P w1 = .ok (.enter g (vf ++ [Value.func (.yield (w.heap.size + 1)) #[] #[]] ++ vc).toArray) w1 := by
    simp only [Go.invoke, Go.callFunc]
    rw [bind_ok run_program]
    have hne : (F.name == "runtime.NumGoroutine") = false := by simpa using hF2
    simp only [hF1, hF3, Option.isNone_some, hne, Bool.false_eq_true, if_false, run_pure]
    simp
  refine ⟨w.heap.size + 1, [{ target := .collected w.heap.size, args := #[] }], w1, _, w1, g, _, w1, henter, hres, fun _ _ => trivial, hinv, fun h => absurd h (by simp [Fence.wide]), ?_⟩
  · refine CallsIn.mono (R := Post E P C1 w1 r1 H1) hcall ?_
    rintro e w3 ⟨C3, ok3, hx3, hH3, hres⟩
    cases r1 with
    | panic v =>
      split at h
      · rename_i hc _; cases hc
      · cases h
    | ret v0 =>
      split at h
      case h_2 => cases h
      rename_i st pend fn2 tm2 ps2 x2 y2 an2 _ hl3
      split at h
      · cases h
      rename_i hst
      cases e with
      | panicked ch => simp [ResOK] at hres
      | outgrown => simp [ResOK] at hres
      | returned rv =>
        rw [← hH, ← hH3] at hl3
        have hlt : C.H.length < C1.H.length := by rw [hH1, hH]; simp
        have hι3 : C3.ι C.H.length = some (.at (w.heap.size + 1) 0 0) := by
          rcases hx3.le.stable _ hlt with hd | ⟨hi, _⟩
          · rw [hd] at hl3; cases hl3
          · rw [hi, hι1]
        obtain ⟨rec, q1, q2, q3, q4, q5, q6, q7, _⟩ := ok3.sim.setLoop hι3 hl3
        have hset := putObj_set (o := .loop { rec with state := .exhausted }) q1
        have hnb : rec.state ≠ .busy := by
          rw [q2]
          match st, hst with
          | 0, _ => simp [loopState]
          | 1, h => exact absurd rfl h
          | 2, _ => simp [loopState]
          | (_ + 3), _ => simp [loopState]
        have hM3 : ∀ j, C3.M (w.heap.size + 1) j = none := ok3.sim.open_ _ _ _ _ _ hι3 hl3 rfl
        obtain ⟨hsk, hxk⟩ := ok3.sim.kill C.H.length
        have hnk : ¬ owned (C3.kill C.H.length).ι (w.heap.size + 1) := by
          rintro ⟨b, off, cap, hi⟩
          by_cases hb : b = C.H.length
          · simp [Cx.kill, hb] at hi
          · have : C3.ι b = some (.at (w.heap.size + 1) off cap) := by simpa [Cx.kill, hb] using hi
            exact hb (ok3.sim.sep _ _ _ _ _ _ _ this hι3)
        have hs4 := hsk.off hset hnk hM3
        have hx4 : Ext C3 w3 (C3.kill C.H.length) (w3.putObj (w.heap.size + 1) (.loop { rec with state := .exhausted })) :=
          ⟨hxk.le, hxk.newmem, hxk.own, fun b hb hno => hset.rest b fun e => hno (e ▸ ⟨_, _, _, hι3⟩), by rw [hset.size]; exact Nat.le_refl _, hset.quiet⟩
        refine ⟨_, _, Go.run_endLoop q1 hnb, ?_⟩
        have hout : ∀ ex e, ExOK (C3.kill C.H.length) ex e → Out E P B w0 N ex ⟨s.tmps, H1.set s.heap.length .dead⟩ e { a with defers := { target := .collected w.heap.size, args := #[] } :: a.defers } (w3.putObj (w.heap.size + 1) (.loop { rec with state := .exhausted })) := by
          intro ex e he
          exact ⟨C3.kill C.H.length, ok3.next hs4 hx4, ((hx.trans hcalm.ext).trans hx3).trans hx4, by rw [← hH3, ← hH]; rfl, (hs.mono hcalm.le).mono (hx3.le.trans hx4.le), hN, (hm1.step hx3).step hx4, he⟩
        have key : ∀ pd, JumpRep pend pd → (match pd with
            | none => Q .normal { a with defers := { target := .collected w.heap.size, args := #[] } :: a.defers } (w3.putObj (w.heap.size + 1) (.loop { rec with state := .exhausted }))
            | some c => c.wpIn Fence.wide 0 P Q { a with defers := { target := .collected w.heap.size, args := #[] } :: a.defers } (w3.putObj (w.heap.size + 1) (.loop { rec with state := .exhausted }))) := by
          intro pd hj
          cases hj with
          | none => exact hk _ _ _ _ _ h (hout .normal .normal trivial)
          | ret => exact Go.wpIn_ret (hk _ _ _ _ _ h (hout .ret .ret trivial))
          | exit id => exact Go.wpIn_exit (hk _ _ _ _ _ h (hout (.exit id) (.exit id) rfl))
        exact key _ q3

end
end Ev

/- Code, whole. -/
namespace Ev
open Go (Value Addr Fn IntKind World Sem Program Operand Oper Result Act Ending Fence CallsIn RoundIn Exit Deferred Code wpOpsIn wpAnyIn)

section
variable {P : Program} {E : Env} {B : Cx} {w0 : World} {N : Nat}

theorem bothW_some {R : Type} {x y : Option R} {r : R} (h : bothW x y = some r) : x = y ∧ x = some r := by
  unfold bothW at h
  split at h
  · rename_i e; exact ⟨e, h⟩
  · cases h

theorem code_ok {F : Fence} (hF : Wide F) {K : Sem'} (hK : KSound E P K) {fn : Nat} : ∀ (c : Code) (_ : F = Fence.wide ∨ noRange c = true) (an : Ann) {R : Type} (s : St) (k : Ex → St → Option R) (r : R) (a : Act) (w : World) (Q : Exit → Act → World → Prop),
    E.code K fn N B.H.length c an s k = some r → At E P B w0 N s a w → (∀ ex s' e a' w', k ex s' = some r → Out E P B w0 N ex s' e a' w' → Q e a' w') → c.wpIn F 0 P Q a w
  | .skip, _, an, _, s, k, r, a, w, Q, h, hat, hk => by
    simp only [Env.code] at h
    exact Go.wpIn_skip (hk _ _ _ _ _ h hat)
  | .label l, _, an, _, s, k, r, a, w, Q, h, hat, hk => by
    simp only [Env.code] at h
    exact Go.wpIn_label (hk _ _ _ _ _ h hat)
  | .region id ops draw, _, an, _, s, k, r, a, w, Q, h, hat, hk => by
    simp only [Env.code] at h
    exact region_ok hF hK hk h hat
  | .exit id, _, an, _, s, k, r, a, w, Q, h, hat, hk => by
    simp only [Env.code] at h
    obtain ⟨C, h1, h2, h3, h4, h5, h6, _⟩ := hat
    exact Go.wpIn_exit (hk _ _ _ _ _ h ⟨C, h1, h2, h3, h4, h5, h6, rfl⟩)
  | .ret, _, an, _, s, k, r, a, w, Q, h, hat, hk => by
    simp only [Env.code] at h
    obtain ⟨C, h1, h2, h3, h4, h5, h6, _⟩ := hat
    exact Go.wpIn_ret (hk _ _ _ _ _ h ⟨C, h1, h2, h3, h4, h5, h6, trivial⟩)
  | .seq x y, hr, an, _, s, k, r, a, w, Q, h, hat, hk => by
    have hrx : F = Fence.wide ∨ noRange x = true := hr.imp_right fun h => by simp only [noRange, Bool.and_eq_true] at h; exact h.1
    have hry : F = Fence.wide ∨ noRange y = true := hr.imp_right fun h => by simp only [noRange, Bool.and_eq_true] at h; exact h.2
    have plain : ∀ a1 a2 : Ann, E.code K fn N B.H.length x a1 s (fun e s' => match e with | .normal => E.code K fn N B.H.length y a2 s' k | e => k e s') = some r → (Code.seq x y).wpIn F 0 P Q a w := by
      intro a1 a2 h
      refine Go.wpIn_seq (code_ok hF hK x hrx a1 s _ r a w _ h hat ?_)
      intro ex s' e a' w' h' ho
      cases ex with
      | normal =>
        cases e with
        | normal => exact code_ok hF hK y hry a2 s' k r a' w' Q h' ho hk
        | _ => obtain ⟨C, _, _, _, _, _, _, he⟩ := ho; simp [ExOK] at he
      | _ =>
        have hq := hk _ _ e a' w' h' ho
        cases e with
        | normal => obtain ⟨C, _, _, _, _, _, _, he⟩ := ho; simp [ExOK] at he
        | _ => exact hq
    cases an with
    | j out a1 a2 =>
      simp only [Env.code, Option.bind_eq_some_iff] at h
      obtain ⟨⟨e0, p0⟩, h1, h2⟩ := h
      refine Go.wpIn_seq (code_ok hF hK x hrx a1 s _ (e0, p0) a w _ h1 hat ?_)
      intro ex s' e a' w' h' ho
      simp only [Option.some.injEq] at h'
      have ho' := pack_ok (Nat.le_refl N) out ho
      rw [h'] at ho'
      simp only at ho' h2
      cases e0 with
      | normal =>
        cases e with
        | normal => exact code_ok hF hK y hry a2 _ k r a' w' Q h2 ho' hk
        | _ => obtain ⟨C, _, _, _, _, _, _, he⟩ := ho'; simp [ExOK] at he
      | _ =>
        have hq := hk _ _ e a' w' h2 ho'
        cases e with
        | normal => obtain ⟨C, _, _, _, _, _, _, he⟩ := ho'; simp [ExOK] at he
        | _ => exact hq
    | s a1 a2 => simp only [Env.code] at h; exact plain a1 a2 h
    | o => simp only [Env.code] at h; exact plain .o .o h
    | l _ _ _ => simp only [Env.code] at h; exact plain .o .o h
    | i _ => simp only [Env.code] at h; exact plain .o .o h
  | .cond c x y, hr, an, _, s, k, r, a, w, Q, h, hat, hk => by
    have hrx : F = Fence.wide ∨ noRange x = true := hr.imp_right fun h => by simp only [noRange, Bool.and_eq_true] at h; exact h.1
    have hry : F = Fence.wide ∨ noRange y = true := hr.imp_right fun h => by simp only [noRange, Bool.and_eq_true] at h; exact h.2
    simp only [Env.code] at h
    split at h
    case h_3 => cases h
    case h_2 ht =>
      obtain ⟨heq, h⟩ := bothW_some h
      have hc : ∃ b, a.eval c = .bool b := by
        obtain ⟨C, ok, _, _, hs, _⟩ := hat
        have := opnd_ok ok.glob hs c
        rw [ht] at this
        simp only [AVal, AR] at this
        obtain ⟨b, hb⟩ := this
        exact ⟨b, by simpa using hb⟩
      obtain ⟨b, hc⟩ := hc
      refine Go.wpIn_cond_split hc (fun e => ?_) (fun e => ?_)
      · exact code_ok hF hK x hrx _ s k r a w Q h hat hk
      · exact code_ok hF hK y hry _ s k r a w Q (heq ▸ h) hat hk
    rename_i t ht
    have hc : a.eval c = .bool t := by
      obtain ⟨C, ok, _, _, hs, _⟩ := hat
      have := opnd_ok ok.glob hs c
      rw [ht, AVal.bool] at this
      exact this
    refine Go.wpIn_cond_split hc (fun e => ?_) (fun e => ?_)
    · subst e
      simp only [if_true] at h
      exact code_ok hF hK x hrx _ s k r a w Q h hat hk
    · subst e
      simp only [Bool.false_eq_true, if_false] at h
      exact code_ok hF hK y hry _ s k r a w Q h hat hk
  | .block id x, hr, an, _, s, k, r, a, w, Q, h, hat, hk => by
    have hrx : F = Fence.wide ∨ noRange x = true := hr.imp_right fun h => by simpa only [noRange] using h
    simp only [Env.code] at h
    refine Go.wpIn_block (code_ok hF hK x hrx _ s _ r a w _ h hat ?_)
    intro ex s' e a' w' h' ho
    cases ex with
    | exit id' =>
      cases e with
      | exit id2 =>
        obtain ⟨C, k1, k2, k3, k4, k5, k6, he⟩ := ho
        simp only [ExOK] at he
        subst he
        simp only [Exit.inBlock] at h' ⊢
        split at h'
        · rename_i hid
          rw [if_pos hid]
          exact hk _ _ _ _ _ h' ⟨C, k1, k2, k3, k4, k5, k6, trivial⟩
        · rename_i hid
          rw [if_neg hid]
          exact hk _ _ _ _ _ h' ⟨C, k1, k2, k3, k4, k5, k6, rfl⟩
      | _ => obtain ⟨C, _, _, _, _, _, _, he⟩ := ho; simp [ExOK] at he
    | _ =>
      have hq := hk _ _ e a' w' h' ho
      cases e with
      | exit _ => obtain ⟨C, _, _, _, _, _, _, he⟩ := ho; simp [ExOK] at he
      | _ => exact hq
  | .loop x, hr, an, _, s, k, r, a, w, Q, h, hat, hk => by
    have hrx : F = Fence.wide ∨ noRange x = true := hr.imp_right fun h => by simpa only [noRange] using h
    cases an with
    | l live out ax =>
      simp only [Env.code, Option.bind_eq_some_iff] at h
      obtain ⟨⟨e0, p0⟩, h1, h2⟩ := h
      obtain ⟨m, hm⟩ := iter_some h1
      refine loop_ok (live := live) (out := out) (res := (e0, p0)) ?_ (fun e a' w' ho => hk _ _ _ _ _ h2 ho) m _ hm a w (head_ok (Nat.le_refl N) live hat)
      intro q xx hstep a w hat Q' hn hx
      refine code_ok hF hK x hrx ax _ _ xx a w Q' hstep hat ?_
      intro ex s' e a' w' h' ho
      cases ex with
      | normal =>
        simp only [Option.some.injEq] at h'
        cases e with
        | normal => exact hn _ a' w' h'.symm (pack_ok (Nat.le_refl N) live ho)
        | _ => obtain ⟨C, _, _, _, _, _, _, he⟩ := ho; simp [ExOK] at he
      | _ =>
        simp only [Option.some.injEq] at h'
        refine hx _ _ e a' w' h'.symm ?_ (pack_ok (Nat.le_refl N) out ho)
        simp
    | _ => simp [Env.code] at h
  | .rangeFunc f ps assign body, hr, an, _, s, k, r, a, w, Q, h, hat, hk => by
    rcases hr with rfl | hr
    · exact rangeFunc_ok hK h hat hk
    · simp [noRange] at hr
  | .scope x, _, an, _, s, k, r, a, w, Q, h, hat, hk => by simp [Env.code] at h
  | .goto l, _, an, _, s, k, r, a, w, Q, h, hat, hk => by simp [Env.code] at h
  | .refuse why, _, an, _, s, k, r, a, w, Q, h, hat, hk => by simp [Env.code] at h

end
end Ev

/- Functions. -/
namespace Ev
open Go (Value Addr Fn IntKind World Sem Program Operand Oper Result Act Ending Fence CallsIn RoundIn Exit Deferred Code LeavesInM FrameMode)

section
variable {P : Program} {E : Env}

theorem run_loadAs {w : World} {t : Nat} {xv rv : Value} (h : (Go.Instr.loadAt t xv).run P w = .ok rv w) : ((do Go.loadVar t (← Go.asAddr xv)) : Sem Value).run P w = .ok rv w := by
  unfold Go.Instr.loadAt at h
  cases xv with
  | pointer a =>
    cases a with
    | some a => exact h
    | none => rw [Go.Sem.run_bind] at h; cases h
  | _ => rw [Go.Sem.run_bind] at h; cases h

theorem results_list {C : Cx} {w : World} (ok : Ok E P C w) {s : St} {a : Act} (hH : C.H = s.heap) (hs : SlotsOK C s.tmps a.tmps) : ∀ (l : List Go.ResultVar) (vs : List AV), E.result s l = some vs →
    ∃ xs : List Value, (l.mapM (fun | .tmp t => Pure.pure (a.tmps.getD t Go.undef) | .cell x t => do Go.loadVar t (← Go.asAddr (a.tmps.getD x Go.undef)) : Go.ResultVar → Sem Value)).run P w = .ok xs w ∧ AVs C vs xs
  | [], vs, h => by
    simp only [Env.result, Option.some.injEq] at h
    subst h
    exact ⟨[], rfl, by simp [AVs]⟩
  | .tmp t :: l, vs, h => by
    simp only [Env.result, Option.map_eq_some_iff] at h
    obtain ⟨vs', h1, rfl⟩ := h
    obtain ⟨xs, h2, h3⟩ := results_list ok hH hs l vs' h1
    refine ⟨a.tmps.getD t Go.undef :: xs, ?_, by simp only [AVs]; exact ⟨_, _, rfl, hs.2 t, h3⟩⟩
    rw [List.mapM_cons, bind_ok (run_pure _), bind_ok h2]; rfl
  | .cell x t :: l, vs, h => by
    simp only [Env.result, Option.bind_eq_some_iff, Option.map_eq_some_iff] at h
    obtain ⟨v, hv, vs', h1, rfl⟩ := h
    obtain ⟨xs, h2, h3⟩ := results_list ok hH hs l vs' h1
    rw [← hH] at hv
    obtain ⟨rv, g1, g2⟩ := load_ok ok.env ok.sim (hs.2 x) hv
    refine ⟨rv :: xs, ?_, by simp only [AVs]; exact ⟨_, _, rfl, g2, h3⟩⟩
    rw [List.mapM_cons, bind_ok (run_loadAs g1), bind_ok h2]; rfl

def tupV (xs : List Value) : Value := if h : xs.toArray.size = 1 then xs.toArray[0] else .tuple xs.toArray

theorem tup_ok {C : Cx} {vs : List AV} {xs : List Value} (h2 : AVs C vs xs) : AVal C (tupA vs) (tupV xs) := by
  cases vs with
  | nil =>
    simp only [AVs] at h2
    subst h2
    simp [tupA, tupV, AR, AVs]
  | cons v vs =>
    simp only [AVs] at h2
    obtain ⟨x, r, rfl, h3, h4⟩ := h2
    cases vs with
    | nil =>
      simp only [AVs] at h4
      subst h4
      exact h3
    | cons v' vs =>
      simp only [AVs] at h4
      obtain ⟨x', r', rfl, h5, h6⟩ := h4
      have e : tupV (x :: x' :: r') = .tuple (x :: x' :: r').toArray := by simp [tupV]
      rw [e]
      simp only [tupA, AVal, AR]
      exact ⟨trivial, _, rfl, by simp only [AVs]; exact ⟨_, _, rfl, h3, _, _, rfl, h5, h6⟩⟩

theorem results_ok {C : Cx} {w : World} (ok : Ok E P C w) {s : St} {a : Act} (hH : C.H = s.heap) (hs : SlotsOK C s.tmps a.tmps) {fn : Go.Func} {vs : List AV} (h : E.result s fn.results.toList = some vs) :
    ∃ xs, (Go.results fn a.tmps).run P w = .ok (tupV xs) w ∧ AVs C vs xs := by
  obtain ⟨xs, h1, h2⟩ := results_list ok hH hs _ vs h
  have hm : (fn.results.mapM (fun | .tmp t => Pure.pure (a.tmps.getD t Go.undef) | .cell x t => do Go.loadVar t (← Go.asAddr (a.tmps.getD x Go.undef)) : Go.ResultVar → Sem Value)).run P w = .ok xs.toArray w := by
    rw [Array.mapM_eq_mapM_toList]
    simp only [Go.Sem.run_map, h1]
    rfl
  have hb : (Go.results fn a.tmps).run P w = ((Pure.pure (tupV xs)) : Sem Value).run P w :=
    bind_ok (f := fun (ys : Array Value) => (Pure.pure (if h : ys.size = 1 then ys[0] else .tuple ys) : Sem Value)) hm
  exact ⟨xs, by rw [hb]; rfl, h2⟩

/-- On the way out: the marks are taken. -/
theorem leaves_ok {B C : Cx} {w0 : World} {fn : Go.Func} {tmps : Array Value} {R : Ending → World → Prop} {u : FrameMode} (hu : u ≠ .run) : ∀ (ds : List Deferred) (w : World),
    Ok E P C w → Ext B w0 C w → Marks w0.heap.size C w ds → (∀ w', Ok E P C w' → Ext B w0 C w' → LeavesInM Fence.wide 0 P fn tmps R [] u w') → LeavesInM Fence.wide 0 P fn tmps R ds u w
  | [], w, ok, hx, hm, h => h w ok hx
  | d :: ds, w, ok, hx, hm, h => by
    obtain ⟨rs, h1, h2, h3⟩ := hm
    cases rs with
    | nil => simp at h1
    | cons r rs =>
      simp only [List.map_cons, List.cons.injEq] at h1
      obtain ⟨k1, k2, k3⟩ := h3 r (by simp)
      have hset := putObj_set (o := .deferred none) k1
      have hM : ∀ j, C.M r j = none := fun j => by
        cases hv : C.M r j with
        | none => rfl
        | some v =>
          have := ok.sim.agree r j v hv
          simp [World.cell?, k1] at this
      have hs' := ok.sim.off hset k2 hM
      have hstep : Ext B w0 C (w.putObj r (.deferred none)) := by
        refine ⟨hx.le, hx.newmem, hx.own, fun blk hlt hno => ?_, by rw [hset.size]; exact hx.grow, hx.quiet.trans hset.quiet⟩
        rw [hset.rest blk (by omega)]; exact hx.frame blk hlt hno
      refine ⟨hu, .inl ⟨r, _, h1.1, Go.run_takeDeferred k1, leaves_ok hu ds _ ⟨ok.env, ok.has, ok.glob, hs'⟩ hstep ⟨rs, h1.2, (List.nodup_cons.1 h2).2, fun r' hr' => ?_⟩ h⟩⟩
      obtain ⟨l1, l2, l3⟩ := h3 r' (by simp [hr'])
      have : r' ≠ r := fun e => (List.nodup_cons.1 h2).1 (e ▸ hr')
      exact ⟨by rw [hset.rest r' this]; exact l1, l2, l3⟩

theorem enter_slots {C : Cx} {args : List AV} {vs : List Value} (h : AVs C args vs) (n : Nat) :
    SlotsOK C (args ++ List.replicate (n - args.length) .unk) (vs.toArray ++ Array.replicate (n - vs.toArray.size) Go.undef) ∧
      (vs.toArray ++ Array.replicate (n - vs.toArray.size) Go.undef).size = max n args.length := by
  have hl : ∀ {fs : List AV} {us : List Value}, AVs C fs us → fs.length = us.length := by
    intro fs
    induction fs with
    | nil => intro us hu; simp only [AVs] at hu; subst hu; rfl
    | cons f fs ih => intro us hu; simp only [AVs] at hu; obtain ⟨v, r, rfl, _, h2⟩ := hu; simp [ih h2]
  have hlen := hl h
  refine ⟨⟨by simp; omega, fun i => ?_⟩, by simp; omega⟩
  rw [List.getD_eq_getElem?_getD, List.getElem?_append, Array.getD_eq_getD_getElem?, Array.getElem?_append]
  by_cases hi : i < args.length
  · rw [if_pos hi, if_pos (by simp; omega)]
    obtain ⟨v, h1, h2⟩ := AVs.get i args[i] h (by simp [hi])
    simp only [List.getElem?_toArray, h1, Option.getD_some]
    simp only [hi, List.getElem?_eq_getElem, Option.getD_some]
    exact h2
  · rw [if_neg hi, List.getElem?_replicate]
    split <;> exact AVal.unk

theorem fn_ok {K : Sem'} (hK : KSound E P K) {f : Nat} {args : List AV} {H : Heap} {r : Res} {H' : Heap} {C : Cx} {w : World} {vs : List Value} (h : E.fnEv K (.f f) args H = some (r, H')) (ok : Ok E P C w) (hH : C.H = H) (hv : AVs C args vs) :
    (∃ F c, P.funcs[f]? = some F ∧ F.name ≠ "runtime.NumGoroutine" ∧ F.body = some c) ∧ CallsIn Fence.wide 0 P f vs.toArray w (Post E P C w r H') := by
  simp only [Env.fnEv] at h
  split at h
  case h_2 => cases h
  rename_i fn an hfn
  split at h
  case h_2 => cases h
  rename_i c hbody
  obtain ⟨hf, hname⟩ := ok.env.fn f fn an hfn
  refine ⟨⟨fn, c, hf, hname, hbody⟩, ?_⟩
  obtain ⟨hs, hN⟩ := enter_slots hv fn.ntmps
  refine Go.callsIn_of_wp_marks hf hbody trivial ?_
  subst hH
  have hat : At E P C w (max fn.ntmps args.length) ⟨args ++ List.replicate (fn.ntmps - args.length) .unk, C.H⟩ { tmps := vs.toArray ++ Array.replicate (fn.ntmps - vs.toArray.size) Go.undef, defers := [] } w :=
    ⟨C, ok, .refl C w, rfl, hs, hN, ⟨[], rfl, List.nodup_nil, by simp⟩, trivial⟩
  refine code_ok ⟨none, rfl⟩ hK c (.inl rfl) an _ _ (r, H') _ w _ h hat ?_
  rintro ex s e a w' hk ⟨C', ok', hx, hH', hs', hN', hm', he⟩
  have hb : C.H.length ≤ C'.H.length := hx.le.len
  have leave : (ex = .normal ∨ ex = .ret) → LeavesInM Fence.wide 0 P fn a.tmps (Post E P C w r H') a.defers .returning w' := by
    intro hex
    have hk : ((E.result s fn.results.toList).bind fun vs => E.fin f C.H.length vs s.heap) = some (r, H') := by
      rcases hex with rfl | rfl <;> exact hk
    simp only [Option.bind_eq_some_iff] at hk
    obtain ⟨rs, hrs, hk⟩ := hk
    refine leaves_ok (by simp) a.defers w' ok' hx hm' fun w2 ok2 hx2 => ?_
    obtain ⟨xs, g1, g2⟩ := results_ok ok2 hH' hs' hrs
    refine ⟨_, g1, ?_⟩
    unfold Env.fin at hk
    split at hk
    · simp only [Option.map_eq_some_iff, Prod.mk.injEq] at hk
      obtain ⟨ds, hds, hr, hH2⟩ := hk
      rw [← hH'] at hds hr hH2
      obtain ⟨M1, s1, s2, s3, s4⟩ := ok2.sim.shut (AV.leanss rs)
      have hx1 : Ext C' w2 ⟨M1, C'.ι, C'.H.shut (AV.leanss rs), C'.has⟩ w2 := ⟨s4, fun b o v hv => (s3 b o v hv).imp_right .inl, fun _ h => .inl h, fun _ _ _ => rfl, Nat.le_refl _, .refl w2⟩
      have hds1 := freezes_vals s1 rs ds _ (allSealed_seal _ _) (by rw [freezes_seal]; exact hds) (AVs.mono s4 _ _ g2)
      have hb1 : C.H.length ≤ (C'.H.shut (AV.leanss rs)).length := by rw [Heap.seal_length]; exact hb
      obtain ⟨D, d1, d2, d3, d4, d5, d6, d7, d8⟩ := gc_ok s1 hb1 (roots := [tupA (ds.map .p)]) (vals := [tupV xs]) (by simp only [AVs]; exact ⟨_, _, rfl, tup_ok hds1, rfl⟩)
      refine ⟨D, ⟨ok2.env, d3.trans ok2.has, by rw [d2]; exact ok2.glob.mono s2, d1⟩, d8 C w rfl (hx2.trans hx1), by rw [d4]; exact hH2, ?_⟩
      subst hr
      cases hg : (gc C.H.length [tupA (ds.map .p)] (C'.H.shut (AV.leanss rs))).1 with
      | nil => simp only [hg] at d5; simp [AVs] at d5
      | cons v' r1 =>
        simp only [hg] at d5
        simp only [AVs] at d5
        obtain ⟨x, y, hxy, h1, h2⟩ := d5
        cases hxy
        exact h1
    · simp only [Option.some.injEq, Prod.mk.injEq] at hk
      obtain ⟨hr, hH2⟩ := hk
      obtain ⟨C0, r1, r2, r3, r4, r5, r6⟩ := rewins_ok C.H.length ok2.sim g2
      rw [hH'] at r4 r5
      have hb0 : C.H.length ≤ C0.H.length := Nat.le_trans hb r6.le.len
      generalize rewins C.H.length rs s.heap = p at r4 r5 hr hH2
      have hq : ∃ C1, Sim C1 w2 ∧ C1.M = C'.M ∧ C1.has = C'.has ∧ C1.H = (if C.H.length = 0 then enter ⟨p.1, p.2⟩ else ⟨p.1, p.2⟩ : Pk).heap ∧ AVs C1 (if C.H.length = 0 then enter ⟨p.1, p.2⟩ else ⟨p.1, p.2⟩ : Pk).vs xs ∧ Ext C' w2 C1 w2 ∧ C.H.length ≤ C1.H.length := by
        split
        · rename_i h0
          obtain ⟨C1, e1, e2, e3, e4, e5, e6⟩ := enter_ok r1 r5
          rw [r4] at e4 e5
          exact ⟨C1, e1, e2.trans r2, e3.trans r3, e4, e5, r6.trans e6, by rw [h0]; omega⟩
        · exact ⟨C0, r1, r2, r3, r4, r5, r6, hb0⟩
      generalize (if C.H.length = 0 then enter ⟨p.1, p.2⟩ else ⟨p.1, p.2⟩ : Pk) = q at hq hr hH2
      obtain ⟨C1, e1, e2, e3, e4, e5, e6, e7⟩ := hq
      obtain ⟨D, d1, d2, d3, d4, d5, d6, d7, d8⟩ := gc_ok e1 e7 (roots := [tupA q.vs]) (vals := [tupV xs]) (by simp only [AVs]; exact ⟨_, _, rfl, tup_ok e5, rfl⟩)
      rw [e4] at d4 d5
      refine ⟨D, ⟨ok2.env, d3.trans (e3.trans ok2.has), by rw [d2, e2]; exact ok2.glob, d1⟩, d8 C w rfl (hx2.trans e6), by rw [d4]; exact hH2, ?_⟩
      subst hr
      cases hg : (gc C.H.length [tupA q.vs] q.heap).1 with
      | nil => rw [hg] at d5; simp [AVs] at d5
      | cons v' r1 =>
        rw [hg] at d5
        simp only [AVs] at d5
        obtain ⟨x, y, hxy, h1, h2⟩ := d5
        cases hxy
        exact h1
  cases ex with
  | normal => cases e <;> simp only [ExOK] at he; exact leave (.inl rfl)
  | ret => cases e <;> simp only [ExOK] at he; exact leave (.inr rfl)
  | exit id => simp at hk
  | panic v =>
    cases e <;> simp only [ExOK] at he
    obtain ⟨rv, rfl, hv⟩ := he
    simp only [Option.some.injEq, Prod.mk.injEq] at hk
    obtain ⟨hr, hH2⟩ := hk
    show LeavesInM Fence.wide 0 P fn a.tmps (Post E P C w r H') a.defers (.panicking _) w'
    refine leaves_ok (by simp) a.defers w' ok' hx hm' fun w2 ok2 hx2 => ?_
    obtain ⟨D, d1, d2, d3, d4, d5, d6, d7, d8⟩ := gc_ok ok2.sim hb (roots := [v]) (vals := [rv]) (by simp only [AVs]; exact ⟨_, _, rfl, hv, rfl⟩)
    rw [hH'] at d4 d5
    refine ⟨D, ⟨ok2.env, d3.trans ok2.has, by rw [d2]; exact ok2.glob, d1⟩, d8 C w rfl hx2, by rw [d4]; exact hH2, ?_⟩
    subst hr
    cases hg : (gc C.H.length [v] s.heap).1 with
    | nil => rw [hg] at d5; simp [AVs] at d5
    | cons v' r1 =>
      rw [hg] at d5
      simp only [AVs] at d5
      obtain ⟨x, y, hxy, h1, h2⟩ := d5
      cases hxy
      exact ⟨_, rfl, h1⟩

end
end Ev

/- Rounds; all calls. -/
namespace Ev
open Go (Value Addr Fn IntKind World Sem Program Operand Oper Result Act Ending Fence CallsIn RoundIn Exit Deferred Code)

section
variable {P : Program} {E : Env}

theorem yld_ok {K : Sem'} (hK : KSound E P K) {l : Nat} {args : List AV} {H : Heap} {r : Res} {H' : Heap} {C : Cx} {w : World} {vs : List Value} {blk off cap : Nat}
    (h : E.fnEv K (.y l) args H = some (r, H')) (ok : Ok E P C w) (hH : C.H = H) (hv : AVs C args vs) (hi : C.ι l = some (.at blk off cap)) :
    ∃ rec, w.heap[blk]? = some (.loop rec) ∧ vs.length = rec.params.size ∧
      RoundIn Fence.wide 0 P blk rec.fn ((rec.params.zip vs.toArray).foldl (fun tmps (t, a) => tmps.setIfInBounds t a) rec.tmps) rec.assign rec.body w (Post E P C w r H') := by
  subst hH
  simp only [Env.fnEv] at h
  split at h
  case h_2 => cases h
  rename_i st0 pend0 fn tmps ps assign body an ho
  split at h
  case isFalse => cases h
  rename_i hc
  obtain ⟨hlen, hnr⟩ := hc
  obtain ⟨hnr1, hnr2⟩ : noRange assign = true ∧ noRange body = true := by simpa using hnr
  obtain ⟨rec, q1, q2, q3, q4, q5, q6, q7, _⟩ := ok.sim.setLoop hi ho
  refine ⟨rec, q1, by rw [q4, ← hv.len]; exact hlen, ?_⟩
  obtain ⟨hp1, hp2⟩ := params_ok ps.toList args vs tmps rec.tmps (by simp [hlen]) hv q7.slots
  have hfold : (rec.params.zip vs.toArray).foldl (fun tmps (t, a) => tmps.setIfInBounds t a) rec.tmps = (ps.toList.zip vs).foldl (fun t (x : Go.Tmp × Value) => t.setIfInBounds x.1 x.2) rec.tmps := by
    rw [q4, ← Array.foldl_toList, Array.toList_zip]
  rw [hfold]
  have htl : tmps.length = rec.tmps.size := by simpa using q7.len
  have hllt : l < C.H.length := ok.sim.idlt hi
  have hwide : Wide (Fence.wide.inRound blk) := ⟨some blk, rfl⟩
  have hat : At E P C w tmps.length ⟨setParams tmps ps.toList args, C.H⟩ { tmps := (ps.toList.zip vs).foldl (fun t (x : Go.Tmp × Value) => t.setIfInBounds x.1 x.2) rec.tmps, defers := [] } w :=
    ⟨C, ok, .refl C w, rfl, hp1, by rw [hp2, htl], ⟨[], rfl, List.nodup_nil, by simp⟩, trivial⟩
  refine Go.roundIn_of_wpIn trivial ?_
  rw [q5, q6]
  refine code_ok hwide hK assign (.inr hnr1) _ _ _ (r, H') _ w _ h hat ?_
  intro ex s e a1 w1 hk ho1
  cases ex with
  | normal =>
    obtain ⟨C1, ok1, hx1, hH1, hs1, hN1, hm1, he1⟩ := ho1
    cases e <;> simp only [ExOK] at he1
    simp only at hk
    split at hk
    case h_2 => cases hk
    rename_i pd1 fn1 tm1 ps1 x1 y1 an1 hl1
    rw [← hH1] at hl1
    have hi1 : C1.ι l = some (.at blk off cap) := by
      rcases hx1.le.stable _ hllt with hd | ⟨hi', _⟩
      · rw [hd] at hl1; cases hl1
      · rw [hi', hi]
    obtain ⟨rec1, p1, p2, p3, p4, p5, p6, p7, p8⟩ := ok1.sim.setLoop hi1 hl1
    obtain ⟨hs2, hx2⟩ := p8 1 pd1 rec1.pending p3
    refine ⟨_, Go.run_beginRound p1 p2, ?_⟩
    refine code_ok hwide hK body (.inr hnr2) _ _ _ (r, H') _ _ _ hk (B := C) (w0 := w) (N := tmps.length) ⟨_, ok1.next hs2 hx2, hx1.trans hx2, by rw [← hH1], hs1.mono hx2.le, hN1, hm1.step hx2, trivial⟩ ?_
    intro ex s e a2 w2 hk ho2
    obtain ⟨C2, ok2, hx2, hH2, hs2, hN2, hm2, he2⟩ := ho2
    split at hk
    case h_2 => cases hk
    rename_i j hj
    have hb : C.H.length ≤ C2.H.length := hx2.le.len
    obtain ⟨D, d1, d2, d3, d4, d5, d6, d7, d8⟩ := gc_ok ok2.sim hb (roots := []) (vals := []) (by simp [AVs])
    rw [hH2] at d4
    split at hk
    case h_2 => cases hk
    rename_i st3 pd3 fn3 tm3 ps3 x3 y3 an3 hl3
    rw [← d4] at hl3
    simp only [Option.some.injEq, Prod.mk.injEq] at hk
    obtain ⟨rfl, rfl⟩ := hk
    have hxD := d8 C w rfl hx2
    have okD : Ok E P D w2 := ⟨ok2.env, d3.trans ok2.has, by rw [d2]; exact ok2.glob, d1⟩
    have hiD : D.ι l = some (.at blk off cap) := by
      rcases hxD.le.stable _ hllt with hd | ⟨hi', _⟩
      · rw [hd] at hl3; cases hl3
      · rw [hi', hi]
    obtain ⟨rec3, g1, g2, g3, g4, g5, g6, g7, g8⟩ := okD.sim.setLoop hiD hl3
    have fin : ∀ jump : Option Code, JumpRep j jump → ∃ v w', (Go.Instr.endRound blk jump).run P w2 = .ok v w' ∧
        Post E P C w (.ret (.p (.bool j.isNone))) ((gc C.H.length [] s.heap).2.set l (.loop (if j.isNone then 0 else 2) j fn3 tm3 ps3 x3 y3 an3)) (.returned v) w' := by
      intro jump hjr
      obtain ⟨hs4, hx4⟩ := g8 (if j.isNone then 0 else 2) j jump hjr
      have hst : (if jump.isNone then Go.LoopState.ready else .done) = loopState (if j.isNone then 0 else 2) := by cases hjr <;> rfl
      refine ⟨_, _, Go.run_endRound jump g1, ?_⟩
      rw [hst]
      exact ⟨_, okD.next hs4 hx4, hxD.trans hx4, by rw [← d4], by simp only [ResOK]; rw [AVal.bool]; cases hjr <;> rfl⟩
    cases ex with
    | normal => cases e <;> simp only [ExOK] at he2; cases hj; exact fin none .none
    | ret => cases e <;> simp only [ExOK] at he2; cases hj; exact fin (some .ret) .ret
    | exit id =>
      cases e <;> simp only [ExOK] at he2
      subst he2
      cases hj; exact fin (some (.exit id)) (.exit id)
    | panic v => cases hj
  | exit id => simp at hk
  | ret => simp at hk
  | panic v => simp at hk

theorem fnEv_sound {K : Sem'} (hK : KSound E P K) : KSound E P (E.fnEv K) :=
  ⟨fun _ _ _ _ _ _ _ _ h ok hH hv => fn_ok hK h ok hH hv, fun _ _ _ _ _ _ _ _ _ _ _ h ok hH hv hi => yld_ok hK h ok hH hv hi⟩

theorem call_sound : ∀ n, KSound E P (E.call n)
  | 0 => ⟨fun _ _ _ _ _ _ _ _ h => by simp [Env.call] at h, fun _ _ _ _ _ _ _ _ _ _ _ h => by simp [Env.call] at h⟩
  | n + 1 => fnEv_sound (call_sound n)

end
end Ev
