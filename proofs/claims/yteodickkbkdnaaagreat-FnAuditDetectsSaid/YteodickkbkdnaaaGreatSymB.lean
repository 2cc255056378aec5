/-
  The symbolic machine is right: regions in the text's order and in any order, bodies, functions, calls, wherever it does not give up.
-/
import Derived.Test.YteodickkbkdnaaaGreatSymA
import Derived.Test.YteodickkbkdnaaaGreatMetaB
import Derived.Orders

namespace Go.Sy
open Go
open Go.Lgo (bytesOf)

section
variable {Γ : Cx} {od : Nat → Option Od} {ds : Nat → Option Ds} {tt : Nat → TI} {B : Bs} {N : Nat} {Z : Zm} {T : TT} {H : Hp} {U : Nat → Prop} {c : Nat} {a : Act} {w : World}

theorem prts_ok (E : Env Γ.P od ds tt) (hj : J Γ B N Z T H U a w) (place : Nat → Option (Nat × Nat)) : ∀ (ps : List (Nat × Operand)) (qs : List (Nat × Nat × Od)) (cs : List SV) (vs : List Value) (k : List SV → A) (r : R3),
    partsOf od place ps = some qs → run1 (prts qs cs k) T H c = some r → Cs Γ Z cs vs → (∀ u, u ∈ vs → u.oneCell' = true) →
    ∃ (cs' : List SV) (vs' : List Value), run1 (k cs') T H c = some r ∧ Instr.fill place vs.toArray (ps.map fun p => (p.1, a.eval p.2)) = some vs'.toArray ∧ Cs Γ Z cs' vs' ∧ (∀ u, u ∈ vs' → u.oneCell' = true) ∧ vs'.length = vs.length := by
  intro ps
  induction ps with
  | nil =>
    intro qs cs vs k r hp hr hc ho
    simp only [partsOf, Option.some.injEq] at hp
    subst hp
    exact ⟨cs, vs, hr, rfl, hc, ho, rfl⟩
  | cons p ps ih =>
    intro qs cs vs k r hp hr hc ho
    obtain ⟨i, x⟩ := p
    simp only [partsOf] at hp
    split at hp
    · rename_i off sz o1 qs' h1 h2 h3
      cases hp
      have hr : run1 (rdo o1 fun v => oL (cellsV v) fun l => ifA (Nat.beq (len l) sz) (oL (spl cs off l) fun cs' => prts qs' cs' k) .fail) T H c = some r := hr
      rw [r_rdo] at hr
      obtain ⟨l, e1, hr1⟩ := r_oL hr
      obtain ⟨hl, hr2⟩ := r_ifF hr1
      have hl := beqI hl
      rw [len_eq] at hl
      obtain ⟨cs', e2, hr3⟩ := r_oL hr2
      obtain ⟨us, k1, k2, k3⟩ := cells_val e1 (odOf_ok E h2 hj)
      obtain ⟨m1, m2⟩ := hc.spl k2 e2
      obtain ⟨cs2, vs2, g1, g2, g3, g4, g5⟩ := ih qs' cs' _ k r h3 hr3 m1 (splice_oc ho k3)
      refine ⟨cs2, vs2, g1, ?_, g3, g4, by rw [g5, Lgo.splice_length _ _ _ m2]⟩
      rw [List.map_cons, Lgo.fill_put h1 k1 (by rw [k2.len]; exact hl) (by simpa using m2)]
      exact g2
    · cases hp

theorem places_ok {P : Program} (hT : TTok P tt) : ∀ (fs : List Field), (∀ f, f ∈ fs → (tt f.type).ok = true) →
    fs.mapM (fun f => (P.info? f.type).map fun i => (f.offset, i.size)) = some (fs.map fun f => (f.offset, (tt f.type).size))
  | [], _ => rfl
  | f :: fs, hok => by
    obtain ⟨i, z, k1, k2, _⟩ := (hT f.type (hok f (by simp))).info
    have := places_ok hT fs (fun g hg => hok g (by simp [hg]))
    simp [List.mapM_cons, k1, this, k2]

theorem bd_ok (E : Env Γ.P od ds tt) {d : Option Nat} {dd : Ds} {t : TypeId} {ps : Array (Nat × Operand)} {qs : List (Nat × Nat × Od)} (hds : dsOf ds d = some dd) (hok : (tt t).ok = true) (hf : fldsOk tt t = true)
    (hp : partsOf od (fun i => match fldAt tt t i with
      | some (off, ft) => some (off, (tt ft).size)
      | none => none) ps.toList = some qs) : OpOK Γ d (.build t ps) (bdA dd (tt t).zero qs) := by
  intro B N Z T H U c r a w o ho hd hN hc hfs hj hr
  rw [bdA] at hr
  obtain ⟨i, z, z1, z2, z3, z4, z5, z6, z7, z8, z9⟩ := (E.tt t hok).info
  unfold fldsOk at hf
  split at hf
  · rename_i fs hk
    obtain ⟨fl, hu, hfl, hag⟩ := und_st E hok hk
    obtain ⟨cs', vs', g1, g2, g3, g4, g5⟩ := prts_ok E hj _ _ _ _ _ _ _ hp hr (svsOf_ok _ _ z4) z7
    have hpl := places_ok E.tt fl.toList (fun f hm => by
      rw [List.all_eq_true] at hf
      exact hf (f.offset, f.type) (by rw [← hfl]; exact List.mem_map.2 ⟨f, hm, rfl⟩))
    have hbuilt : Γ.P.built t (ps.map fun (p : Nat × Operand) => (p.1, a.eval p.2)).toList = some vs'.toArray := by
      unfold Program.built
      rw [z1, hu]
      simp only [z3, hpl]
      rw [Array.toList_map, ← g2]
      congr 1
      funext n
      rw [List.getElem?_toArray, List.getElem?_map]
      simp only [fldAt, hk, ← hfl, List.getElem?_map]
      cases fl.toList[n]? <;> rfl
    have hrun := run_build (P := Γ.P) w t _ _ hbuilt
    exact does_val E hj hd hN hds g1 (v := .agg vs'.toArray) (by simp only [execOp, ho, Sem.run_bind, Sem.run_pure, hrun, Result.andThen_ok]) ⟨vs', rfl, g3, g4⟩
  · cases hf

theorem bl_ok (E : Env Γ.P od ds tt) {d : Option Nat} {dd : Ds} {t e n : Nat} {ps : Array (Nat × Operand)} {qs : List (Nat × Nat × Od)} (hds : dsOf ds d = some dd) (ht : Γ.P.underlying t = some (.slice e)) (hok : (tt e).ok = true) (hle : n * (tt e).size ≤ 16777216)
    (h0 : n * (tt e).size = 0 → ps.toList = []) (hml : n ≤ maxLen) (hp : partsOf od (fun i => some (i * (tt e).size, (tt e).size)) ps.toList = some qs) :
    OpOK Γ d (.buildSlice t n ps) (blA dd (tt e).size n ((List.range (n * (tt e).size)).map fun k => (tt e).zero.getD (k % (tt e).size) .n) qs) := by
  intro B N Z T H U c r a w o ho hd hN hc hfs hj hr
  rw [blA] at hr
  obtain ⟨i, z, z1, z2, z3, z4, z5, z6, z7, z8, z9⟩ := (E.tt e hok).info
  have hzl : (tt e).zero.length = (tt e).size := by
    have := (svsOf_ok (Γ := Γ) (Z := Z) _ _ z4).len
    rw [Array.length_toList, z5] at this; exact this.symm
  let zs : List Value := (List.range (n * (tt e).size)).map fun k => z.cells[k % z.cells.size]!
  have hzs : ∀ k, k < n * (tt e).size → ∃ (v : Value) (x : SV), z.cells.toList[k % (tt e).size]? = some v ∧ (tt e).zero[k % (tt e).size]? = some x := by
    intro k hk
    have hpos : 0 < (tt e).size := by
      rcases Nat.eq_zero_or_pos (tt e).size with h | h
      · rw [h] at hk; omega
      · exact h
    have hm := Nat.mod_lt k hpos
    exact ⟨_, _, List.getElem?_eq_getElem (by rw [Array.length_toList, z5]; exact hm), List.getElem?_eq_getElem (by rw [hzl]; exact hm)⟩
  have hcz : Cs Γ Z ((List.range (n * (tt e).size)).map fun k => (tt e).zero.getD (k % (tt e).size) .n) zs := by
    refine Cs.of (by simp [zs]) fun k x v hx hv => ?_
    have hk : k < n * (tt e).size := by have := (List.getElem?_eq_some_iff.1 hx).1; simpa using this
    simp only [List.getElem?_map, List.getElem?_range hk, Option.map_some, Option.some.injEq, zs] at hx hv
    obtain ⟨v', x', e1, e2⟩ := hzs k hk
    rw [List.getD_eq_getElem?_getD, e2, Option.getD_some] at hx
    rw [Array.getElem?_toList] at e1
    rw [z5, getElem!_def, e1] at hv
    subst hx hv
    obtain ⟨v2, e3, e4⟩ := (svsOf_ok (Γ := Γ) (Z := Z) _ _ z4).get e2
    rw [Array.getElem?_toList, e1] at e3
    cases e3; exact e4
  have hoz : ∀ u, u ∈ zs → u.oneCell' = true := by
    intro u hu
    obtain ⟨k, hk⟩ := List.getElem?_of_mem hu
    have hkl : k < n * (tt e).size := by have := (List.getElem?_eq_some_iff.1 hk).1; simpa [zs] using this
    simp only [List.getElem?_map, List.getElem?_range hkl, Option.map_some, Option.some.injEq, zs] at hk
    obtain ⟨v', x', e1, e2⟩ := hzs k hkl
    have e1' := e1
    rw [Array.getElem?_toList] at e1
    rw [z5, getElem!_def, e1] at hk
    subst hk
    exact z7 _ (List.mem_of_getElem? e1')
  obtain ⟨cs', vs', g1, g2, g3, g4, g5⟩ := prts_ok E hj _ _ _ _ _ _ _ hp hr hcz hoz
  obtain ⟨hlim, hr1⟩ := r_nw g1
  have hvl : vs'.length = n * (tt e).size := by rw [g5]; simp [zs]
  have hzarr : ((Array.range (n * i.size)).map (z.cells[· % z.cells.size]!)) = zs.toArray := by
    apply Array.ext'
    simp [zs, z2]
  have hrun : (Instr.buildSlice t n (ps.map fun p => (p.1, a.eval p.2))).run Γ.P w = .ok (.slice (some ⟨w.heap.size, 0, none⟩) n n) (w.alloc (.cells vs'.toArray e)) := by
    by_cases hz0 : n * (tt e).size = 0
    · have hps := h0 hz0
      have hpe : ps = #[] := by apply Array.ext'; simpa using hps
      subst hpe
      have hv0 : vs' = [] := List.eq_nil_of_length_eq_zero (by omega)
      subst hv0
      have hz0' : n * i.size = 0 := by rw [z2]; exact hz0
      have hemp : (Array.map (fun _ => (default : Value)) (Array.range 0)) = #[] := Array.eq_empty_of_size_eq_zero (by simp)
      simp [Instr.buildSlice, run_underlying ht, sizeOf, typeInfo, z1, hz0', Instr.fill, newRow, hemp]
    · refine run_buildSlice w t e n _ _ i z ht z1 z3 (by rw [z2]; omega) (by rw [z2]; exact hz0) ?_
      rw [hzarr, z2, Array.toList_map]
      exact g2
  obtain ⟨hj', hz⟩ := hj.alloc hlim (fresh_c hfs hr1) (es := (tt e).size) (cs := cs') (us := vs') (w' := w.alloc (.cells vs'.toArray e (0, 0))) rfl rfl rfl rfl (fz0 _) g3 g4 (fun i v hv => by simpa using hv)
  refine does_new E hd hN hds hz hj' hr1 (v := .slice (some ⟨w.heap.size, 0, none⟩) n n) ?_ ?_
  · simp only [execOp, ho, Sem.run_bind, Sem.run_pure]
    rw [hrun]
    rfl
  · refine ⟨.inl rfl, 0, n, by simp [Zm.add], .inr (by simp [Zm.add]), Nat.le_refl _, hml, ?_⟩
    simp only [Zm.add, if_pos, List.size_toArray]; omega

theorem mm_ok (E : Env Γ.P od ds tt) {d : Option Nat} {dd : Ds} {t : TypeId} (hds : dsOf ds d = some dd) : OpOK Γ d (.makeMap t none) (mmA dd) := by
  intro B N Z T H U c r a w o ho hd hN hc hfs hj hr
  rw [mmA] at hr
  obtain ⟨hlim, hr1⟩ := r_nw hr
  obtain ⟨hj', hz⟩ := hj.new hlim (fresh_c hfs hr1) (b := w.heap.size) (o := 0) (s := 0) (e := 0) (h' := .mp []) (w' := w.alloc (.map #[] 0)) (fun β hβ hd he => by have := (hj.hk.live hβ hd).2; omega)
    ⟨.inl rfl, #[], 0, by
      have e : (Z.add c w.heap.size 0 0 0).blk c = w.heap.size := by simp [Zm.add]
      rw [e]
      show (w.heap.push _)[w.heap.size]? = _
      simp, rfl⟩ (.inr hj.fr.size)
    (fun b ob _ hb => by
      have := (Array.getElem?_eq_some_iff.1 hb).1
      show (w.heap.push _)[b]? = _
      rw [Array.getElem?_push_lt this, ← hb, Array.getElem?_eq_getElem this]) (by show _ ≤ (w.heap.push _).size; simp) rfl rfl rfl
  refine does_new E hd hN hds hz hj' hr1 (v := .map (some w.heap.size)) ?_ ⟨.inl rfl, by simp [Zm.add]⟩
  simp only [execOp, ho, Option.map_none, Instr.makeMap]
  rfl
end

end Go.Sy

namespace Go.Sy
open Go

section
variable {Γ : Cx} {od : Nat → Option Od} {ds : Nat → Option Ds} {tt : Nat → TI} {B : Bs} {N : Nat} {Z : Zm} {T : TT} {H : Hp} {U : Nat → Prop} {c : Nat} {a : Act} {w : World} {D : Rg}

theorem num2_vals {fi : Nat → Int → Int → Option SV} {fy : Nat → Int → Int → Int → Int → Int → Int → Option SV} {v u r : SV} {x y : Value} (h : num2 fi fy v u none = some r) (hv : C Γ Z v x) (hu : C Γ Z u y) : ∃ k p q, x = .int k p ∧ y = .int k q := by
  unfold num2 at h
  rw [oI_some] at h
  cases v with
  | i k c =>
    simp only [oI_some] at h
    cases u with
    | i k' c' =>
      simp only at h
      cases hk : Nat.beq k k' with
      | true => have := beqI hk; subst this; exact ⟨_, _, _, hv, hu⟩
      | false => rw [hk] at h; cases h
    | y k' a' b' c' =>
      simp only at h
      cases hk : Nat.beq k k' with
      | true => have := beqI hk; subst this; exact ⟨_, _, _, hv, hu⟩
      | false => rw [hk] at h; cases h
    | _ => cases h
  | y k a b c =>
    simp only [oI_some] at h
    cases u with
    | i k' c' =>
      simp only at h
      cases hk : Nat.beq k k' with
      | true => have := beqI hk; subst this; exact ⟨_, _, _, hv, hu⟩
      | false => rw [hk] at h; cases h
    | y k' a' b' c' =>
      simp only at h
      cases hk : Nat.beq k k' with
      | true => have := beqI hk; subst this; exact ⟨_, _, _, hv, hu⟩
      | false => rw [hk] at h; cases h
    | _ => cases h
  | _ => cases h
theorem keyEq_ok (hD : D.has Γ.n Γ.m) {v u : SV} {x y : Value} {b : Bool} (h : keyEq D v u = some b) (hv : C Γ Z v x) (hu : C Γ Z u y) : ∃ k p q, x = .int k p ∧ y = .int k q ∧ b = (p == q) := by
  unfold keyEq at h
  cases hn : num2 (fun _ a b => some (.b (iEq a b))) (cmpY (fun c => iEq c 0) sEql D) v u none with
  | none => rw [hn] at h; cases h
  | some r =>
    rw [hn] at h
    obtain ⟨k, p, q, rfl, rfl⟩ := num2_vals hn hv hu
    have heq : eqlV D v u = some r := by
      unfold eqlV
      unfold num2 at hn ⊢
      rw [oI_some] at hn ⊢
      cases v <;> first | (cases hn; done) | exact hn
    obtain ⟨z, h1, h2⟩ := eqlV_ok hD Z v u r _ _ 0 default heq hv hu (.inr fun b e => by subst e; cases hn)
    have h3 : z = .bool (p == q) := by
      have : (binOp .eql 0 (.int k p) (.int k q)).run Γ.P default = .ok (.bool (p == q)) default := run_binI (l := .b (p == q)) (.inl rfl) rfl default
      rw [this] at h1; cases h1; rfl
    subst h3
    cases r with
    | b q' =>
      have h4 : Value.bool (p == q) = .bool q' := h2
      cases h4
      have h : some (p == q) = some b := h
      cases h
      exact ⟨k, p, q, rfl, rfl, rfl⟩
    | _ => cases h

theorem mfind_ok (hD : D.has Γ.n Γ.m) {v : SV} {x : Value} (hv : C Γ Z v x) {kk : IntKind} : ∀ {es : List (SV × SV)} {ents : List MapEntry} {i : Nat} {res : Option (Nat × SV)}, Ms Γ Z es ents → mfind D v es i = some res →
    match res with
    | none => Instr.findNow (.int kk) x ents i = some none
    | some (j, sv) => ∃ e : MapEntry, Instr.findNow (.int kk) x ents i = some (some (j, e.val)) ∧ i ≤ j ∧ ents[j - i]? = some e ∧ C Γ Z sv e.val ∧ ∃ k p, x = .int k p ∧ e.key = .int k p := by
  intro es
  induction es with
  | nil =>
    intro ents i res hm h
    simp only [Ms] at hm
    subst hm
    cases h
    rfl
  | cons e es ih =>
    intro ents i res hm h
    obtain ⟨en, es', rfl, h1, h2, h3⟩ := hm
    have h : Option.rec (motive := fun _ => Option (Option (Nat × SV))) none (fun b => ifL b (some (some (i, e.2))) (mfind D v es (Nat.succ i))) (keyEq D v e.1) = some res := h
    cases hk : keyEq D v e.1 with
    | none => rw [hk] at h; cases h
    | some b =>
      rw [hk] at h
      have h : ifL b (some (some (i, e.2))) (mfind D v es (i + 1)) = some res := h
      obtain ⟨k, p, q, rfl, e2, rfl⟩ := keyEq_ok hD hk hv h1
      cases hb : (p == q) with
      | true =>
        rw [hb, ifL_true] at h
        cases h
        have hpq : p = q := by simpa using hb
        subst hpq
        refine ⟨en, ?_, Nat.le_refl _, by simp, h2, k, p, rfl, e2⟩
        simp [Instr.findNow, Instr.sameNow, e2]
      | false =>
        rw [hb, ifL_false] at h
        have := ih h3 h
        have hf : Instr.findNow (.int kk) (.int k p) (en :: es') i = Instr.findNow (.int kk) (.int k p) es' (i + 1) := by
          have e3 : Instr.sameNow (.int kk) (.int k p) en.key = some false := by rw [e2]; simp only [Instr.sameNow, if_true, hb]
          simp only [Instr.findNow, e3]
        cases res with
        | none => exact hf.trans this
        | some r =>
          obtain ⟨j, sv⟩ := r
          obtain ⟨e', g1, g2, g3, g4, g5⟩ := this
          refine ⟨e', hf.trans g1, by omega, ?_, g4, g5⟩
          have : j - i = (j - (i + 1)) + 1 := by omega
          rw [this]; simpa using g3

theorem run_checkKeyI {P : Program} {kt : TypeId} {kk : IntKind} (hk : P.underlying kt = some (.int kk)) (b : Bool) (x : Value) (w : World) : (Instr.checkKey b 10000 kt x).run P w = .ok () w := by
  show (Instr.checkKey b (9999 + 1) kt x).run P w = _
  unfold Instr.checkKey
  rw [Sem.run_bind, run_underlying hk]
  rfl
theorem run_findKeyI {P : Program} {kt : TypeId} {kk : IntKind} (hk : P.underlying kt = some (.int kk)) {x : Value} {es : List MapEntry} {r : Option (Nat × Value)} (h : Instr.findNow (.int kk) x es 0 = some r) (w : World) : (Instr.findKey kt x es).run P w = .ok r w := by
  unfold Instr.findKey
  rw [Sem.run_bind, run_underlying hk]
  simp [h]
theorem run_getMap {P : Program} {w : World} {b : Nat} {es : Array MapEntry} {clock : Nat} (h : w.heap[b]? = some (.map es clock)) : (getObj b).run P w = .ok (.map es clock) w := by
  simp [getObj, Sem.run, h]

theorem lk_ok (E : Env Γ.P od ds tt) (hD : D.has Γ.n Γ.m) {d : Option Nat} {dd : Ds} {t kt et : Nat} {kk : IntKind} {m i : Operand} {ok : Bool} {z : SV} {o1 o2 : Od} (hds : dsOf ds d = some dd) (hm : odOf od m = some o1) (hi : odOf od i = some o2)
    (ht : Γ.P.underlying t = some (.map kt et)) (hk : Γ.P.underlying kt = some (.int kk)) (he : (tt et).ok = true) (hz : pack (tt et).agg (tt et).zero = some z) : OpOK Γ d (.lookup t m i ok) (lkA D dd ok z o1 o2) := by
  intro B N Z T H U c r a w o ho hd hN hc hfs hj hr
  rw [lkA, r_rdo, r_rdo] at hr
  obtain ⟨β, e1, hr1⟩ := r_aM hr
  obtain ⟨hβ0, hr2⟩ := r_gh hr1
  have hβ := Nat.lt_of_lt_of_le hβ0 hc
  obtain ⟨es, e2, hr3⟩ := r_mpA hr2
  obtain ⟨res, e3, hr4⟩ := r_oMf hr3
  have h1 := odOf_ok E hm hj
  have h2 := odOf_ok E hi hj
  rw [e1] at h1
  obtain ⟨g1, g2⟩ := h1
  have hh := hj.hk.ok β hβ
  rw [e2] at hh
  obtain ⟨_, ents, clock, q1, q2⟩ := hh
  have hf := mfind_ok (kk := kk) hD h2 q2 e3
  obtain ⟨zs, z1, z2, z3, z4, z5⟩ := run_zeroS E.tt he w
  have hzc : C Γ Z z (packV (tt et).agg zs) := pack_ok hz (svsOf_ok _ _ z2) z4
  cases res with
  | none =>
    have hf : Instr.findNow (.int kk) (a.eval i) ents.toList 0 = some none := hf
    have hr4 : run1 (pd dd (ifL ok (.t [z, .b false]) z)) T H c = some r := hr4
    refine does_val E hj hd hN hds hr4 (v := if ok then .tuple #[packV (tt et).agg zs, .bool false] else packV (tt et).agg zs) ?_ ?_
    · simp [execOp, ho, g2, Instr.lookup, run_underlying ht, run_getMap q1, run_checkKeyI hk, run_findKeyI hk hf, z1]
    · cases ok with
      | true => exact ⟨_, rfl, _, _, rfl, hzc, _, _, rfl, rfl, rfl⟩
      | false => exact hzc
  | some p =>
    obtain ⟨j, sv⟩ := p
    obtain ⟨en, f1, f2, f3, f4, f5⟩ := hf
    have hr4 : run1 (pd dd (ifL ok (.t [sv, .b true]) sv)) T H c = some r := hr4
    refine does_val E hj hd hN hds hr4 (v := if ok then .tuple #[en.val, .bool true] else en.val) ?_ ?_
    · simp [execOp, ho, g2, Instr.lookup, run_underlying ht, run_getMap q1, run_checkKeyI hk, run_findKeyI hk f1]
    · cases ok with
      | true => exact ⟨_, rfl, _, _, rfl, f4, _, _, rfl, rfl, rfl⟩
      | false => exact f4

theorem Ms.app {es : List (SV × SV)} {ents : List MapEntry} {p : SV × SV} {e : MapEntry} (h : Ms Γ Z es ents) (hk : C Γ Z p.1 e.key) (hv : C Γ Z p.2 e.val) : Ms Γ Z (es ++ [p]) (ents ++ [e]) := by
  induction es generalizing ents with
  | nil => simp only [Ms] at h; subst h; exact ⟨e, [], rfl, hk, hv, rfl⟩
  | cons x es ih => obtain ⟨en, es', rfl, h1, h2, h3⟩ := h; exact ⟨en, es' ++ [e], rfl, h1, h2, ih h3⟩
theorem Ms.set {es : List (SV × SV)} {ents : List MapEntry} {p : SV × SV} {f : MapEntry → MapEntry} (h : Ms Γ Z es ents) {j : Nat} (hk : ∀ e, ents[j]? = some e → C Γ Z p.1 (f e).key) (hv : ∀ e, ents[j]? = some e → C Γ Z p.2 (f e).val) : Ms Γ Z (mset p es j) (ents.modify j f) := by
  induction es generalizing ents j with
  | nil => simp only [Ms] at h; subst h; cases j <;> rfl
  | cons x es ih =>
    obtain ⟨en, es', rfl, h1, h2, h3⟩ := h
    show Ms Γ Z (ifL (Nat.beq j 0) (p :: es) (x :: mset p es (Nat.sub j 1))) _
    cases j with
    | zero => exact ⟨f en, es', by simp, hk en rfl, hv en rfl, h3⟩
    | succ j => exact ⟨en, es'.modify j f, by simp, h1, h2, ih h3 (fun e he => hk e (by simpa using he)) fun e he => hv e (by simpa using he)⟩

theorem mu_ok (E : Env Γ.P od ds tt) (hD : D.has Γ.n Γ.m) {d : Option Nat} {t kt et : Nat} {kk : IntKind} {m k x : Operand} {o1 o2 o3 : Od} (hd0 : d = none) (hm : odOf od m = some o1) (hkk : odOf od k = some o2) (hx : odOf od x = some o3)
    (ht : Γ.P.underlying t = some (.map kt et)) (hk : Γ.P.underlying kt = some (.int kk)) : OpOK Γ d (.mapUpdate t m k x) (muA D o1 o2 o3) := by
  intro B N Z T H U c r a w o ho hd hN hc hfs hj hr
  rw [muA, r_rdo, r_rdo, r_rdo] at hr
  obtain ⟨β, e1, hr1⟩ := r_aM hr
  obtain ⟨hβ0, hr2⟩ := r_gh hr1
  have hβ := Nat.lt_of_lt_of_le hβ0 hc
  obtain ⟨es, e2, hr3⟩ := r_mpA hr2
  obtain ⟨res, e3, hr4⟩ := r_oMf hr3
  have h1 := odOf_ok E hm hj
  have h2 := odOf_ok E hkk hj
  have h3 := odOf_ok E hx hj
  rw [e1] at h1
  obtain ⟨g1, g2⟩ := h1
  have hh := hj.hk.ok β hβ
  rw [e2] at hh
  obtain ⟨q0, ents, clock, q1, q2⟩ := hh
  have hf := mfind_ok (kk := kk) hD h2 q2 e3
  have hlt := (Array.getElem?_eq_some_iff.1 q1).1
  have hset : ∀ o : Obj, (∀ cs e fr, w.heap[Z.blk β]? ≠ some (.cells cs e fr)) → (setObj (Z.blk β) o).run Γ.P w = .ok () { w with heap := w.heap.setIfInBounds (Z.blk β) o } := by
    intro o _
    simp [setObj, Sem.run, q1]
  have hnc : ∀ cs e fr, w.heap[Z.blk β]? ≠ some (.cells cs e fr) := by intro cs e fr hh; rw [q1] at hh; cases hh
  have done : ∀ (es' : List (SV × SV)) (ents' : Array MapEntry) (clock' : Nat), r = (T, H.put β (.mp es'), c) → Ms Γ Z es' ents'.toList → (execOp a.eval o).run Γ.P w = .ok .skip { w with heap := w.heap.setIfInBounds (Z.blk β) (.map ents' clock') } →
      Does Γ.P o a w fun a' w' => ∃ Z' U', Up U c r.2.2 U' ∧ J Γ B N Z' r.1 r.2.1 U' a' w' := by
    intro es' ents' clock' hr hms hrun
    subst hr
    refine .inr ⟨_, hrun, Z, U, Up.refl U c, ?_⟩
    rw [hd, hd0]
    refine hj.write hβ (by rw [e2]; simp) ⟨q0, ents', clock', ?_, hms⟩ (fun b hb => ?_) (by simp) rfl rfl rfl
    · show (w.heap.setIfInBounds (Z.blk β) _)[Z.blk β]? = _
      rw [Array.getElem?_setIfInBounds_self_of_lt hlt]
    · show (w.heap.setIfInBounds (Z.blk β) _)[b]? = _
      rw [Array.getElem?_setIfInBounds_ne (Ne.symm hb)]
  cases res with
  | none =>
    have hf : Instr.findNow (.int kk) (a.eval k) ents.toList 0 = some none := hf
    have hr4 : run1 (.ph β (.mp (app es [(eOd T o2, eOd T o3)])) .fin) T H c = some r := hr4
    obtain ⟨_, hr5⟩ := r_ph hr4
    simp only [run1, Option.some.injEq] at hr5
    refine done (es ++ [(eOd T o2, eOd T o3)]) (ents.push { key := a.eval k, val := a.eval x, born := clock }) (clock + 1) (by rw [← hr5, app_eq]) (by rw [Array.toList_push]; exact q2.app h2 h3) ?_
    simp [execOp, ho, g2, Instr.mapUpdate, run_underlying ht, run_getMap q1, run_checkKeyI hk, run_findKeyI hk hf, hset _ hnc]
  | some p =>
    obtain ⟨j, sv⟩ := p
    obtain ⟨en, f1, f2, f3, f4, kq, pq, f5, f6⟩ := hf
    have hr4 : run1 (.ph β (.mp (mset (eOd T o2, eOd T o3) es j)) .fin) T H c = some r := hr4
    obtain ⟨_, hr5⟩ := r_ph hr4
    simp only [run1, Option.some.injEq] at hr5
    simp only [Nat.sub_zero] at f3
    rw [Array.getElem?_toList] at f3
    have hks : (Instr.keyThatStays en.key (a.eval k)).run Γ.P w = .ok (a.eval k) w := by
      unfold Instr.keyThatStays
      rw [f5, f6]
      simp [Instr.sameBits]
    refine done (mset (eOd T o2, eOd T o3) es j) (ents.modify j fun e => { e with key := a.eval k, val := a.eval x }) clock hr5.symm (by rw [Array.toList_modify]; exact q2.set (fun _ _ => h2) fun _ _ => h3) ?_
    simp [execOp, ho, g2, Instr.mapUpdate, run_underlying ht, run_getMap q1, run_checkKeyI hk, run_findKeyI hk f1, f3, hks, hset _ hnc]
end

end Go.Sy

namespace Go.Sy
open Go
open Go.Lgo (bytesOf)

section
variable {P : Program} {w : World}
/-- What is appended. -/
structure YOK (P : Program) (w : World) (sz : Nat) (y : Value) (m : Nat) (us : List Value) : Prop where
  len : ∀ w', (Builtin.lenOf y).run P w' = .ok m w'
  cells : ∀ w' : World, w'.heap = w.heap → (Builtin.firstCells sz m y).run P w' = .ok us.toArray w'
  cnt : us.length = m * sz
theorem zeroCells_size (z : Array Value) (n : Nat) : (Builtin.zeroCells z n).size = n * z.size := by simp [Builtin.zeroCells]
theorem cell_heap {w w' : World} (h : w'.heap = w.heap) (a : Addr) : w'.cell? a = w.cell? a := by simp only [World.cell?, h]
theorem firstCells_some {sz n : Nat} {b : Addr} {k cap : Nat} {us : List Value} (hl : us.length = n * sz) (hc : ∀ j u, us[j]? = some u → w.cell? (b.add j) = some u) : ∀ w' : World, w'.heap = w.heap → (Builtin.firstCells sz n (.slice (some b) k cap)).run P w' = .ok us.toArray w' := by
  intro w' hw
  have := run_loadCells_list (P := P) w' b us fun j u hu => by rw [cell_heap hw]; exact hc j u hu
  rw [hl] at this
  exact this

set_option maxHeartbeats 1000000 in
/-- In place. -/
theorem run_app_in {t t' ty e : TypeId} {d' : TypeDesc} (ht : P.underlying t = some (.slice e)) (ht' : P.underlying t' = some d') (hd' : (∃ e', d' = .slice e') ∨ d' = .string) {i : TypeInfo} (hi : P.info? e = some i) {y : Value} {m : Nat} {us : List Value} (hy : YOK P w i.size y m us)
    {b o n cap : Nat} (hcap : n + m ≤ cap) {arr : Array Value} {el : TypeId} {fr : Nat × Nat} (hb : w.heap[b]? = some (.cells arr el fr)) (hfz : Fz arr.size fr) (hfit : o + n * i.size + us.length ≤ arr.size) (ho : ∀ u ∈ us, u.oneCell' = true) :
    (Builtin.append_ #[t, t'] ty #[.slice (some ⟨b, o, none⟩) n cap, y]).run P w = .ok (.slice (some ⟨b, o, none⟩) (n + m) cap) (w.setRow b (arr.toList.take (o + n * i.size) ++ us ++ arr.toList.drop (o + n * i.size + us.length)).toArray) := by
  have hst := run_storeCells_fr P b (o + n * i.size) el fr us 0 arr w hb hfz (by omega) ho
  rw [Nat.add_zero] at hst
  have hadd : (⟨b, o, none⟩ : Addr).add (n * i.size) = ⟨b, o + n * i.size, none⟩ := Addr.add_lit ..
  have h2 := hy.cells w rfl
  rcases hd' with ⟨e', rfl⟩ | rfl
  · simp [Builtin.append_, run_underlying ht, run_underlying ht', sizeOf, typeInfo, hi, hy.len, hcap, h2, hadd, hst]
  · simp [Builtin.append_, run_underlying ht, run_underlying ht', sizeOf, typeInfo, hi, hy.len, hcap, h2, hadd, hst]

set_option maxHeartbeats 1000000 in
/-- In a new block. -/
theorem run_app_new {t t' ty e : TypeId} {d' : TypeDesc} (ht : P.underlying t = some (.slice e)) (ht' : P.underlying t' = some d') (hd' : (∃ e', d' = .slice e') ∨ d' = .string) {i : TypeInfo} (hi : P.info? e = some i) {z : Value} (hz : i.zero = some z) {y : Value} {m : Nat} {us : List Value} (hy : YOK P w i.size y m us)
    {base : Option Addr} {n cap : Nat} (hcap : cap < n + m) {olds : List Value} (hold : ∀ w' : World, w'.heap = w.heap → (Builtin.firstCells i.size n (.slice base n cap)).run P w' = .ok olds.toArray w') (hbig : n + m ≤ 4294967296) (hby : i.bytes ≤ 4096) :
    (Builtin.append_ #[t, t'] ty #[.slice base n cap, y]).run P w = .ok (.slice (some ⟨w.heap.size, 0, none⟩) (n + m) (grownCap w (n + m) cap e))
      (w.drew.alloc (.cells (olds.toArray ++ us.toArray ++ Builtin.zeroCells z.cells (grownCap w (n + m) cap e - (n + m))) e)) := by
  have hn : ¬ (n + m ≤ cap) := by omega
  have hmul : (n + m) * i.bytes ≤ 4294967296 * 4096 := Nat.mul_le_mul hbig hby
  have hfit := growslice_fits (need := n + m) (old := cap) (bytes := i.bytes) hcap (by omega)
  have h63' : ¬ (9223372036854775807 < ((n : Int) + (m : Int))) := by omega
  have h48' : ¬ (281474976710656 < Builtin.nextslicecap (n + m) cap * i.bytes) := by omega
  have h1 := hold w.drew rfl
  have h2 := hy.cells w.drew rfl
  have hsz : (w.drew).heap.size = w.heap.size := rfl
  rcases hd' with ⟨e', rfl⟩ | rfl
  all_goals
    simp only [Array.append_assoc]
    simp [Builtin.append_, run_underlying ht, run_underlying ht', sizeOf, typeInfo, zeroValue, hi, hz, hy.len, hn, h63', h48', Question.forced, h1, h2, newRow, grownCap]
    try rfl
end

section
variable {Γ : Cx} {od : Nat → Option Od} {ds : Nat → Option Ds} {tt : Nat → TI} {B : Bs} {N : Nat} {Z : Zm} {T : TT} {H : Hp} {U : Nat → Prop} {c : Nat} {a : Act} {w : World}

theorem yok_of {sz : Nat} {v : SV} {x : Value} {m : Nat} {us : List Value} (h : (x = .slice none 0 0 ∧ m = 0 ∧ us = []) ∨ (∃ s, v = .s s ∧ x = .string (bytesOf s) ∧ m = s.length ∧ sz = 1 ∧ us = (bytesOf s).data.toList.map fun b => Value.int .u8 b.toNat) ∨
        ∃ b o cap, x = .slice (some ⟨b, o, none⟩) m cap ∧ us.length = m * sz ∧ ∀ j u, us[j]? = some u → w.cell? ((⟨b, o, none⟩ : Addr).add j) = some u) : YOK Γ.P w sz x m us := by
  rcases h with ⟨rfl, rfl, rfl⟩ | ⟨s, _, rfl, rfl, rfl, rfl⟩ | ⟨b, o, cap, rfl, h1, h2⟩
  · exact ⟨fun _ => rfl, fun _ _ => rfl, by simp⟩
  · have hs : (bytesOf s).size = s.length := Lgo.bytesOf_size s
    refine ⟨fun w' => ?_, fun w' _ => ?_, ?_⟩
    · show Result.ok (bytesOf s).size w' = _
      rw [hs]
    · show Result.ok _ w' = _
      congr 1
      rw [← hs]
      have : (bytesOf s).extract 0 (bytesOf s).size = bytesOf s := by simp
      rw [this]
      apply Array.ext'
      simp
    · rw [List.length_map, Array.length_toList, Nat.mul_one, ← hs]; rfl
  · exact ⟨fun _ => rfl, firstCells_some h1 h2, h1⟩

set_option maxHeartbeats 1000000 in
theorem ap_ok (E : Env Γ.P od ds tt) {d : Option Nat} {dd : Ds} {t t' e : TypeId} {d' : TypeDesc} {x y : Operand} {xs : Array Operand} {ts : Array TypeId} {o1 o2 : Od} (hxs : xs.toList = [x, y]) (hts : ts.toList = [t, t']) (hds : dsOf ds d = some dd) (hx : odOf od x = some o1) (hy : odOf od y = some o2)
    (ht : Γ.P.underlying t = some (.slice e)) (ht' : Γ.P.underlying t' = some d') (hd' : (∃ e', d' = .slice e') ∨ d' = .string) (he : (tt e).ok = true) : OpOK Γ d (.call { callee := .builtin .append, args := xs, argTypes := ts }) (apA dd (tt e).size o1 o2) := by
  intro B N Z T H U c r a w o ho hd hN hc hfs hj hr
  rw [apA, r_rdo, r_rdo] at hr
  have h1 := odOf_ok E hx hj
  have h2 := odOf_ok E hy hj
  have hxa : xs = #[x, y] := by apply Array.ext'; simpa using hxs
  have hta : ts = #[t, t'] := by apply Array.ext'; simpa using hts
  obtain ⟨m, new, us, hr1, k1, k2, k3⟩ := slA_inv hc hj h2 hr
  obtain ⟨i, z, z1, z2, z3, z4, z5, z6, z7, z8, z9⟩ := (E.tt e he).info
  have hyk : YOK Γ.P w (tt e).size (a.eval y) m us := yok_of k3
  have hex : ∀ (ty : TypeId) (v : Value) (w' : World), (Builtin.append_ #[t, t'] ty #[a.eval x, a.eval y]).run Γ.P w = .ok v w' → o.type = ty → (execOp a.eval o).run Γ.P w = .ok (.value v) w' := by
    intro ty v w' hh hty
    subst hty
    simp [execOp, ho, hxa, hta, resolve, invoke, builtin, hh]
  rcases r_if hr1 with ⟨hm, hr2⟩ | ⟨hm, hr2⟩
  · have hm := beqI hm
    subst hm
    have hus : us = [] := List.eq_nil_of_length_eq_zero (by rw [hyk.cnt]; simp)
    subst hus
    generalize hv : eOd T o1 = v at hr2 h1
    cases v with
    | sn =>
      have e1 : a.eval x = .slice none 0 0 := h1
      refine does_val E hj hd hN hds (show run1 (pd dd .sn) T H c = some r from hr2) (v := .slice none 0 0) (hex o.type _ _ ?_ rfl) rfl
      have h3 := hyk.cells w rfl
      rw [e1]
      rcases hd' with ⟨e', rfl⟩ | rfl <;> simp [Builtin.append_, run_underlying ht, run_underlying ht', run_sizeOfS E.tt he, hyk.len, h3]
    | sl β off n =>
      obtain ⟨g1, q, cap, g2, g3, g4, g5, g6⟩ := h1
      refine does_val E hj hd hN hds (show run1 (pd dd (.sl β off n)) T H c = some r from hr2) (v := .slice (some ⟨Z.blk β, q, none⟩) n cap) (hex o.type _ _ ?_ rfl) ⟨g1, q, cap, rfl, g3, g4, g5, g6⟩
      have h3 := hyk.cells w rfl
      rw [g2]
      rcases hd' with ⟨e', rfl⟩ | rfl <;> simp [Builtin.append_, run_underlying ht, run_underlying ht', run_sizeOfS E.tt he, hyk.len, h3, g4, storeCells]
    | _ => cases hr2
  · have hm0 : m ≠ 0 := beqN hm
    generalize hv : eOd T o1 = v at hr2 h1
    cases v with
    | sn =>
      have e1 : a.eval x = .slice none 0 0 := h1
      have hr2 : run1 (ifA (Nat.ble m 4294967296) (.nw (.hb (tt e).size new) fun β => pd dd (.sl β 0 m)) .fail) T H c = some r := hr2
      obtain ⟨hmb, hr3⟩ := r_ifF hr2
      have hmb := bleI hmb
      obtain ⟨hlim, hr4⟩ := r_nw hr3
      have hrun := run_app_new (w := w) (ty := o.type) ht ht' hd' z1 z3 (m := m) (us := us) (y := a.eval y) (by rw [z2]; exact hyk) (base := none) (n := 0) (cap := 0) (by omega) (olds := []) (fun w' _ => rfl) (by omega) z6
      have hge := grownCap_ge w (0 + m) 0 e
      have hgm := grownCap_le_maxLen w (0 + m) 0 e (by simp only [maxLen]; omega)
      have hasz : (([] : List Value).toArray ++ us.toArray ++ Builtin.zeroCells z.cells (grownCap w (0 + m) 0 e - (0 + m))).size = grownCap w (0 + m) 0 e * (tt e).size := by
        rw [Array.size_append, Array.size_append, zeroCells_size, z5, List.size_toArray, List.size_toArray, hyk.cnt]
        have : m * (tt e).size + (grownCap w (0 + m) 0 e - (0 + m)) * (tt e).size = grownCap w (0 + m) 0 e * (tt e).size := by
          rw [← Nat.add_mul]; congr 1; omega
        simp only [List.length_nil]; omega
      obtain ⟨hj', hz⟩ := hj.alloc hlim (fresh_c hfs hr4) (es := (tt e).size) (cs := new) (us := us) (w' := w.drew.alloc (.cells (([] : List Value).toArray ++ us.toArray ++ Builtin.zeroCells z.cells (grownCap w (0 + m) 0 e - (0 + m))) e (0, 0))) rfl rfl rfl rfl (fz0 _) k1 k2
        (fun j u hu => by
          have hj' := (List.getElem?_eq_some_iff.1 hu).1
          rw [Array.getElem?_append_left (by simpa using hj')]
          simpa using hu)
      refine does_new E hd hN hds hz hj' hr4 (hex o.type _ _ (by rw [e1]; exact hrun) rfl) ⟨.inl rfl, 0, grownCap w (0 + m) 0 e, by simp [Zm.add], .inr (by simp [Zm.add]), by omega, hgm, ?_⟩
      simp only [Zm.add, if_pos]
      rw [hasz]; omega
    | sl β off n =>
      have hr2 : run1 (ifA (Nat.ble (Nat.add n m) 4294967296) (.gh β fun h => hbA h fun es cs => ifA (Nat.beq es (tt e).size) (oL (rng cs off (Nat.mul n (tt e).size)) fun old =>
          .ph β .dead (.nw (.hb (tt e).size (app old new)) fun β' => pd dd (.sl β' 0 (Nat.add n m)))) .fail) .fail) T H c = some r := hr2
      obtain ⟨hmb, hr3⟩ := r_ifF hr2
      have hmb : n + m ≤ 4294967296 := bleI hmb
      obtain ⟨hβ0, hr4⟩ := r_gh hr3
      have hβ := Nat.lt_of_lt_of_le hβ0 hc
      obtain ⟨es, cs, e2, hr5⟩ := r_hbA hr4
      obtain ⟨hes, hr6⟩ := r_ifF hr5
      have hes := beqI hes
      subst hes
      obtain ⟨old, e3, hr7⟩ := r_oL hr6
      obtain ⟨_, hr8⟩ := r_ph hr7
      obtain ⟨hlim, hr9⟩ := r_nw hr8
      rw [app_eq] at hr9
      obtain ⟨g1, q, cap, g2, g3, g4, g5, g6⟩ := h1
      have hh := hj.hk.ok β hβ
      rw [e2] at hh
      have hZe : Z.es β = (tt e).size := hh.2.1
      obtain ⟨arr, el, fr, vs, k4, k5, k6, k7, k8⟩ := cells_of hh e3
      have hfz : Fz arr.size fr ∧ arr.size = Z.siz β := by
        obtain ⟨_, _, arr', el', fr', vs', h3, h4, h5, _⟩ := hh
        rw [k4] at h3; cases h3; exact ⟨h4, h5⟩
      rw [hZe] at g6
      have k6 : vs.length = n * (tt e).size := k6
      have hoff : ∀ j : Nat, j < vs.length → arr[q + j]? = vs[j]? := by
        intro j hj'
        rcases g3 with h0 | h0
        · subst h0; omega
        · rw [h0]; exact k8 j hj'
      have hcell : ∀ j u, vs[j]? = some u → w.cell? ((⟨Z.blk β, q, none⟩ : Addr).add j) = some u := by
        intro j u hu
        rw [Addr.add_lit]
        simp only [World.cell?, k4, Option.isSome_none, Bool.false_eq_true, if_false]
        rw [hoff j (List.getElem?_eq_some_iff.1 hu).1, hu]
      have hj1 := hj.kill hβ
      by_cases hcap : n + m ≤ cap
      · -- in place
        have hcm : (n + m) * (tt e).size ≤ cap * (tt e).size := Nat.mul_le_mul_right _ hcap
        have hsum : n * (tt e).size + us.length = (n + m) * (tt e).size := by rw [hyk.cnt, Nat.add_mul]
        have hfit : q + n * (tt e).size + us.length ≤ arr.size := by rw [hfz.2]; omega
        have hrun := run_app_in (w := w) (ty := o.type) ht ht' hd' z1 (m := m) (us := us) (y := a.eval y) (by rw [z2]; exact hyk) (b := Z.blk β) (o := q) (n := n) hcap k4 hfz.1 (by rw [z2]; exact hfit) k2
        rw [z2] at hrun
        have hw := setRow_heap w (Z.blk β) arr (arr.toList.take (q + n * (tt e).size) ++ us ++ arr.toList.drop (q + n * (tt e).size + us.length)).toArray el fr k4
        have hal := Array.length_toList (xs := arr)
        have hsz : (arr.toList.take (q + n * (tt e).size) ++ us ++ arr.toList.drop (q + n * (tt e).size + us.length)).toArray.size = arr.size := by
          rw [List.size_toArray, Lgo.splice_length _ _ _ (by omega)]; exact hal
        have hfree : ∀ β', β' < 16384 → (H.put β .dead).get β' ≠ .dead → Z.blk β' ≠ Z.blk β := by
          intro β' hb' hd1 he
          rw [hj.hk.get_put hβ _ _ hb'] at hd1
          split at hd1
          · exact hd1 rfl
          · rename_i hne
            exact hne (hj.hk.sep β' β hb' hβ hd1 (by rw [e2]; simp) he)
        have hz' : Zle Z (Z.add c (Z.blk β) q arr.size (tt e).size) := Zle.add (fun hd => fresh_c hfs hr9 (hj.hk.dlt c hd)) _ _ _ _
        obtain ⟨hj2, hz⟩ := hj1.new hlim (fresh_c hfs hr9) (b := Z.blk β) (o := q) (s := arr.size) (e := (tt e).size) (h' := .hb (tt e).size (old ++ new)) (w' := w.setRow (Z.blk β) (arr.toList.take (q + n * (tt e).size) ++ us ++ arr.toList.drop (q + n * (tt e).size + us.length)).toArray) hfree
          ⟨.inl rfl, by simp [Zm.add], _, el, fr, vs ++ us, by rw [show (Z.add c (Z.blk β) q arr.size (tt e).size).blk c = Z.blk β by simp [Zm.add]]; exact hw, by rw [hsz]; exact hfz.1, by rw [hsz]; simp [Zm.add], (k5.append k1).mono Γ hz',
            by rw [hsz, List.length_append]; simp only [Zm.add, if_pos]; omega,
            fun u hu => by rcases List.mem_append.1 hu with hu | hu; exact k7 u hu; exact k2 u hu,
            fun j u hu => by
              simp only [Zm.add, if_pos]
              rw [List.getElem?_toArray, Lgo.splice_get _ _ _ (by omega)]
              by_cases c1 : j < vs.length
              · rw [List.getElem?_append_left c1] at hu
                rw [if_pos (by omega), Array.getElem?_toList, hoff j c1]; exact hu
              · rw [List.getElem?_append_right (by omega)] at hu
                have := (List.getElem?_eq_some_iff.1 hu).1
                rw [if_neg (by omega), if_pos (by omega), ← hu]
                congr 1; omega⟩
          (hj.fr.own β hβ (by rw [e2]; simp)) (fun b ob hne hb => by rw [setRow_other w _ _ _ hne]; exact hb) (by simp [World.setRow]) rfl rfl rfl
        refine does_new E hd hN hds hz hj2 hr9 (hex o.type _ _ (by rw [g2]; exact hrun) rfl) ⟨.inl rfl, q, cap, ?_, .inr (by simp [Zm.add]), hcap, g5, ?_⟩
        · simp only [Zm.add, if_pos]; rfl
        · simp only [Zm.add, if_pos]; rw [hfz.2]; exact g6
      · -- anew
        have hrun := run_app_new (w := w) (ty := o.type) ht ht' hd' z1 z3 (m := m) (us := us) (y := a.eval y) (by rw [z2]; exact hyk) (base := some ⟨Z.blk β, q, none⟩) (n := n) (cap := cap) (by omega) (olds := vs) (by rw [z2]; exact firstCells_some k6 hcell) hmb z6
        have hge := grownCap_ge w (n + m) cap e
        have hgm := grownCap_le_maxLen w (n + m) cap e (by simp only [maxLen]; omega)
        have hasz : (vs.toArray ++ us.toArray ++ Builtin.zeroCells z.cells (grownCap w (n + m) cap e - (n + m))).size = grownCap w (n + m) cap e * (tt e).size := by
          rw [Array.size_append, Array.size_append, zeroCells_size, z5, List.size_toArray, List.size_toArray, hyk.cnt, k6]
          have : n * (tt e).size + m * (tt e).size + (grownCap w (n + m) cap e - (n + m)) * (tt e).size = grownCap w (n + m) cap e * (tt e).size := by
            rw [← Nat.add_mul, ← Nat.add_mul]; congr 1; omega
          exact this
        obtain ⟨hj', hz⟩ := hj1.alloc hlim (fresh_c hfs hr9) (es := (tt e).size) (cs := old ++ new) (us := vs ++ us) (w' := w.drew.alloc (.cells (vs.toArray ++ us.toArray ++ Builtin.zeroCells z.cells (grownCap w (n + m) cap e - (n + m))) e (0, 0))) rfl rfl rfl rfl (fz0 _) (k5.append k1)
          (fun u hu => by rcases List.mem_append.1 hu with hu | hu; exact k7 u hu; exact k2 u hu)
          (fun j u hu => by
            have hj' := (List.getElem?_eq_some_iff.1 hu).1
            rw [List.length_append] at hj'
            rw [Array.getElem?_append_left (by simpa using hj')]
            rw [show vs.toArray ++ us.toArray = (vs ++ us).toArray by simp]
            simpa using hu)
        refine does_new E hd hN hds hz hj' hr9 (hex o.type _ _ (by rw [g2]; exact hrun) rfl) ⟨.inl rfl, 0, grownCap w (n + m) cap e, ?_, .inr (by simp [Zm.add]), hge, hgm, ?_⟩
        · simp only [Zm.add, if_pos]; rfl
        · simp only [Zm.add, if_pos]; rw [hasz]; omega
    | _ => cases hr2
end

end Go.Sy

namespace Go.Sy
open Go

section
variable {Γ : Cx} {od : Nat → Option Od} {ds : Nat → Option Ds} {tt : Nat → TI} {D : Rg}

theorem bindI {α β : Type} {o : Option α} {f : α → Option β} {r : β} (h : (o >>= f) = some r) : ∃ v, o = some v ∧ f v = some r := by
  cases o with
  | none => cases h
  | some v => exact ⟨v, rfl, h⟩
theorem guardI {β : Type} {p : Prop} [Decidable p] {f : Unit → Option β} {r : β} (h : ((guard p : Option Unit) >>= f) = some r) : p ∧ f () = some r := by
  by_cases hp : p
  · simp only [guard, hp, if_true] at h; exact ⟨hp, h⟩
  · simp only [guard, hp, if_false] at h; cases h
theorem failOK {d : Option Nat} {op : Op} : OpOK Γ d op .fail := fun _ _ _ _ _ _ _ _ _ _ _ _ _ _ _ _ _ h => by cases h

theorem aOf_ok (E : Env Γ.P od ds tt) (hD : D.has Γ.n Γ.m) {d : Option Nat} {op : Op} {A0 : A} (h : aOf D od ds tt d op = some A0) : OpOK Γ d op A0 := by
  unfold aOf at h
  split at h
  · obtain ⟨dd, h1, h⟩ := bindI h
    obtain ⟨o1, h2, h⟩ := bindI h
    cases h
    exact mv_ok E (.inl rfl) h1 h2
  · obtain ⟨dd, h1, h⟩ := bindI h
    obtain ⟨o1, h2, h⟩ := bindI h
    cases h
    exact mv_ok E (.inr rfl) h1 h2
  · obtain ⟨dd, h1, h⟩ := bindI h
    obtain ⟨o1, h2, h⟩ := bindI h
    obtain ⟨o2, h3, h⟩ := bindI h
    obtain ⟨o3, h4, h⟩ := bindI h
    cases h
    exact pk_ok E h1 h2 h3 h4
  · obtain ⟨hok, h⟩ := guardI h
    obtain ⟨dd, h1, h⟩ := bindI h
    cases h
    exact al_ok E h1 hok
  · obtain ⟨dd, h1, h⟩ := bindI h
    obtain ⟨o1, h2, h⟩ := bindI h
    cases h
    exact bx_ok E h1 h2
  · obtain ⟨hok, h⟩ := guardI h
    obtain ⟨dd, h1, h⟩ := bindI h
    obtain ⟨o1, h2, h⟩ := bindI h
    cases h
    exact ld_ok E h1 h2 hok
  · obtain ⟨hok, h⟩ := guardI h
    obtain ⟨o1, h2, h⟩ := bindI h
    obtain ⟨o2, h3, h⟩ := bindI h
    cases h
    rw [Bool.and_eq_true] at hok
    exact st_ok E (by cases d <;> simp_all) h2 h3 hok.1
  · obtain ⟨hok, h⟩ := guardI h
    obtain ⟨⟨off, ft⟩, h1, h⟩ := bindI h
    obtain ⟨hok2, h⟩ := guardI h
    obtain ⟨dd, h2, h⟩ := bindI h
    obtain ⟨o1, h3, h⟩ := bindI h
    cases h
    rw [Bool.and_eq_true] at hok2
    refine fa_ok E h2 h3 hok h1 hok2.1 fun e => ?_
    have := hok2.2
    rw [e] at this
    cases this
  · obtain ⟨hok, h⟩ := guardI h
    split at h
    · rename_i hk
      obtain ⟨hok2, h⟩ := guardI h
      obtain ⟨dd, h2, h⟩ := bindI h
      obtain ⟨o1, h3, h⟩ := bindI h
      obtain ⟨o2, h4, h⟩ := bindI h
      cases h
      exact ia_ok E h2 h3 h4 (und_sl E hok hk) hok2
    · cases h
  · obtain ⟨hok, h⟩ := guardI h
    split at h
    · rename_i hk
      obtain ⟨dd, h2, h⟩ := bindI h
      obtain ⟨o1, h3, h⟩ := bindI h
      obtain ⟨o2, h4, h⟩ := bindI h
      cases h
      exact ix_ok E h2 h3 h4 (und_str E hok hk)
    · cases h
  · obtain ⟨dd, h2, h⟩ := bindI h
    obtain ⟨o1, h3, h⟩ := bindI h
    cases h
    exact xt_ok E h2 h3
  · obtain ⟨hok, h⟩ := guardI h
    split at h
    · rename_i hk
      obtain ⟨dd, h1, h⟩ := bindI h
      obtain ⟨f, h2, h⟩ := bindI h
      obtain ⟨o1, h3, h⟩ := bindI h
      obtain ⟨o2, h4, h⟩ := bindI h
      cases h
      exact bi_ok E hD h1 h3 h4 (.inr ⟨h2, und_bool E hok hk⟩)
    · obtain ⟨dd, h1, h⟩ := bindI h
      obtain ⟨f, h2, h⟩ := bindI h
      obtain ⟨o1, h3, h⟩ := bindI h
      obtain ⟨o2, h4, h⟩ := bindI h
      cases h
      exact bi_ok E hD h1 h3 h4 (.inl h2)
    · obtain ⟨dd, h1, h⟩ := bindI h
      obtain ⟨f, h2, h⟩ := bindI h
      obtain ⟨o1, h3, h⟩ := bindI h
      obtain ⟨o2, h4, h⟩ := bindI h
      cases h
      exact bi_ok E hD h1 h3 h4 (.inl h2)
    · cases h
  · obtain ⟨dd, h2, h⟩ := bindI h
    obtain ⟨o1, h3, h⟩ := bindI h
    cases h
    exact no_ok E h2 h3
  · obtain ⟨dd, h2, h⟩ := bindI h
    obtain ⟨o1, h3, h⟩ := bindI h
    cases h
    exact ng_ok E h2 h3
  · obtain ⟨hok, h⟩ := guardI h
    rw [Bool.and_eq_true] at hok
    split at h
    · rename_i hk1 hk2
      obtain ⟨dd, h2, h⟩ := bindI h
      obtain ⟨o1, h3, h⟩ := bindI h
      cases h
      exact ci_ok E hD h2 h3 (und_int E hok.1 hk1) (und_int E hok.2 hk2)
    · rename_i e hk1 hk2
      obtain ⟨hok2, h⟩ := guardI h
      rw [Bool.and_eq_true] at hok2
      obtain ⟨dd, h2, h⟩ := bindI h
      obtain ⟨o1, h3, h⟩ := bindI h
      cases h
      have hu8 : Γ.P.underlying e = some (.int .u8) := by
        have := hok2.2
        unfold u8T at this
        split at this
        · rename_i hk; exact und_int E hok2.1 hk
        · cases this
      exact sb_ok E h2 h3 (und_str E hok.1 hk1) (und_sl E hok.2 hk2) hu8
    · rename_i e hk1 hk2
      obtain ⟨hok2, h⟩ := guardI h
      rw [Bool.and_eq_true] at hok2
      obtain ⟨dd, h2, h⟩ := bindI h
      obtain ⟨o1, h3, h⟩ := bindI h
      cases h
      have hu8 : Γ.P.underlying e = some (.int .u8) := by
        have := hok2.2
        unfold u8T at this
        split at this
        · rename_i hk; exact und_int E hok2.1 hk
        · cases this
      exact bs_ok E h2 h3 (und_sl E hok.1 hk1) (und_str E hok.2 hk2) hu8
    · cases h
  · obtain ⟨hok, h⟩ := guardI h
    simp only [Bool.and_eq_true] at hok
    obtain ⟨qs, h1, h⟩ := bindI h
    obtain ⟨dd, h2, h⟩ := bindI h
    cases h
    exact bd_ok E h2 hok.1.1 hok.2 h1
  · obtain ⟨hok, h⟩ := guardI h
    split at h
    · rename_i e hk
      obtain ⟨hok2, h⟩ := guardI h
      simp only [Bool.and_eq_true] at hok2
      obtain ⟨qs, h1, h⟩ := bindI h
      obtain ⟨dd, h2, h⟩ := bindI h
      cases h
      refine bl_ok E h2 (und_sl E hok hk) hok2.1.1.1 (bleI hok2.1.1.2) (fun h0 => ?_) (Nat.le_trans (bleI hok2.2) (by decide)) h1
      have := hok2.1.2
      rw [h0] at this
      simpa using this
    · cases h
  · obtain ⟨hok, h⟩ := guardI h
    split at h
    · rename_i e hk
      obtain ⟨hok2, h⟩ := guardI h
      obtain ⟨dd, h1, h⟩ := bindI h
      obtain ⟨o1, h2, h⟩ := bindI h
      obtain ⟨o2, h3, h⟩ := bindI h
      obtain ⟨o3, h4, h⟩ := bindI h
      cases h
      exact su_ok E h1 h2 h3 h4 (und_sl E hok hk) hok2
    · rename_i hk
      obtain ⟨dd, h1, h⟩ := bindI h
      obtain ⟨o1, h2, h⟩ := bindI h
      obtain ⟨o2, h3, h⟩ := bindI h
      obtain ⟨o3, h4, h⟩ := bindI h
      cases h
      exact ss_ok E h1 h2 h3 h4 (und_str E hok hk)
    · cases h
  · rename_i f first cs
    obtain ⟨hok, h⟩ := guardI h
    obtain ⟨dd, h1, h⟩ := bindI h
    obtain ⟨os, h2, h⟩ := bindI h
    cases h
    have hf : first = #[] := by apply Array.ext'; simpa using hok
    subst hf
    exact mf_ok E h1 h2
  · obtain ⟨dd, h1, h⟩ := bindI h
    cases h
    exact mm_ok E h1
  · obtain ⟨hok, h⟩ := guardI h
    split at h
    · rename_i k e hk
      obtain ⟨hok2, h⟩ := guardI h
      simp only [Bool.and_eq_true] at hok2
      obtain ⟨dd, h1, h⟩ := bindI h
      obtain ⟨z, h2, h⟩ := bindI h
      obtain ⟨o1, h3, h⟩ := bindI h
      obtain ⟨o2, h4, h⟩ := bindI h
      cases h
      obtain ⟨kk, hkk⟩ : ∃ kk, (tt k).kd = .int kk := by
        have := hok2.1.2
        unfold isInt at this
        split at this
        · exact ⟨_, by assumption⟩
        · cases this
      exact lk_ok E hD h1 h3 h4 (und_mp E hok hk) (und_int E hok2.1.1 hkk) hok2.2 h2
    · cases h
  · obtain ⟨hok, h⟩ := guardI h
    simp only [Bool.and_eq_true] at hok
    split at h
    · rename_i k e hk
      obtain ⟨hok2, h⟩ := guardI h
      simp only [Bool.and_eq_true] at hok2
      obtain ⟨o1, h3, h⟩ := bindI h
      obtain ⟨o2, h4, h⟩ := bindI h
      obtain ⟨o3, h5, h⟩ := bindI h
      cases h
      obtain ⟨kk, hkk⟩ : ∃ kk, (tt k).kd = .int kk := by
        have := hok2.2
        unfold isInt at this
        split at this
        · exact ⟨_, by assumption⟩
        · cases this
      exact mu_ok E hD (by have := hok.2; cases d <;> simp_all) h3 h4 h5 (und_mp E hok.1 hk) (und_int E hok2.1 hkk)
    · cases h
  · split at h
    · rename_i hxs hts
      obtain ⟨hok, h⟩ := guardI h
      split at h
      · rename_i hk
        obtain ⟨dd, h1, h⟩ := bindI h
        obtain ⟨o1, h2, h⟩ := bindI h
        cases h
        exact ls_ok E hxs hts (und_str E hok hk) h1 h2
      · rename_i e hk
        obtain ⟨dd, h1, h⟩ := bindI h
        obtain ⟨o1, h2, h⟩ := bindI h
        cases h
        exact ln_ok E hxs hts (und_sl E hok hk) h1 h2
      · cases h
    · cases h
  · split at h
    · rename_i hxs hts
      obtain ⟨hok, h⟩ := guardI h
      simp only [Bool.and_eq_true] at hok
      split at h
      · rename_i e e' hk1 hk2
        obtain ⟨hok2, h⟩ := guardI h
        simp only [Bool.and_eq_true] at hok2
        obtain ⟨dd, h1, h⟩ := bindI h
        obtain ⟨o1, h2, h⟩ := bindI h
        obtain ⟨o2, h3, h⟩ := bindI h
        cases h
        exact ap_ok E hxs hts h1 h2 h3 (und_sl E hok.1 hk1) (und_sl E hok.2 hk2) (.inl ⟨_, rfl⟩) hok2.1
      · rename_i e hk1 hk2
        obtain ⟨hok2, h⟩ := guardI h
        simp only [Bool.and_eq_true] at hok2
        obtain ⟨dd, h1, h⟩ := bindI h
        obtain ⟨o1, h2, h⟩ := bindI h
        obtain ⟨o2, h3, h⟩ := bindI h
        cases h
        exact ap_ok E hxs hts h1 h2 h3 (und_sl E hok.1 hk1) (und_str E hok.2 hk2) (.inr rfl) hok2.1
      · cases h
    · cases h
  · split at h
    · rename_i hxs
      obtain ⟨dd, h1, h⟩ := bindI h
      obtain ⟨o1, h2, h⟩ := bindI h
      obtain ⟨o2, h3, h⟩ := bindI h
      cases h
      exact mx_ok E hxs h1 h2 h3
    · cases h
  · cases h
end

end Go.Sy

namespace Go.Sy
open Go

section
variable {Γ : Cx} {od : Nat → Option Od} {ds : Nat → Option Ds} {tt : Nat → TI} {B : Bs} {N : Nat} {Z : Zm} {T : TT} {H : Hp} {U : Nat → Prop} {c : Nat} {a : Act} {w : World} {D : Rg}

/-- Blocks that stay as they are, and that no symbolic block lies in. -/
def FX (Γ : Cx) (Z : Zm) (H : Hp) (w : World) : Prop := ∀ (b : Nat) (o : Obj), Γ.fx b = some o → w.heap[b]? = some o ∧ ∀ β, β < 16384 → H.get β ≠ .dead → Z.blk β ≠ b
theorem FX.step (h : FX Γ B.Z B.H B.w) (hf : Fr B Z H w) : FX Γ Z H w := by
  intro b o hb
  obtain ⟨h1, h2⟩ := h b o hb
  refine ⟨hf.keep b o h1 h2, fun β hβ hd he => ?_⟩
  rcases hf.own β hβ hd with ⟨β0, k1, k2, k3⟩ | hge
  · exact h2 β0 k1 k2 (k3.trans he)
  · have := (Array.getElem?_eq_some_iff.1 h1).1
    omega
/-- What a known call does. -/
def CalOK (Γ : Cx) (cal : Call) : Prop :=
  ∀ (Z : Zm) (H : Hp) (U : Nat → Prop) (c : Nat) (w : World) (id : Nat) (xs : List SV) (vs : List Value) (v : SV) (H' : Hp) (c' : Nat), c ≤ 16384 → Fs U c c' → Hk Γ Z H U w → FX Γ Z H w → Cs Γ Z xs vs → cal id xs H c = .ok v H' c' →
    (∃ fn code, Γ.P.funcs[id]? = some fn ∧ fn.body = some code ∧ (fn.name == "runtime.NumGoroutine") = false) ∧
    Calls Γ.P id vs.toArray w fun e w' => ∃ u Z' U', e = .returned u ∧ C Γ Z' v u ∧ Up U c c' U' ∧ Hk Γ Z' H' U' w' ∧ Fr ⟨Z, H, w⟩ Z' H' w'
/-- A call's numbers grow, and stay small. -/
def CalLe (cal : Call) : Prop := ∀ id xs H c v H' c', cal id xs H c = .ok v H' c' → c ≤ c' ∧ (c ≤ 16384 → c' ≤ 16384)

theorem Fr.trans {Z' : Zm} {H' : Hp} {w' : World} (h : Fr B Z H w) (h' : Fr ⟨Z, H, w⟩ Z' H' w') : Fr B Z' H' w' := by
  refine ⟨h.ext.trans h'.ext, fun β hβ hd => ?_, fun b o hb hn => ?_, h'.os.trans h.os, h'.tape.trans h.tape, h'.out.trans h.out, Nat.le_trans h.size h'.size⟩
  · rcases h'.own β hβ hd with ⟨β0, h1, h2, h3⟩ | hge
    · have h3 : Z.blk β0 = Z'.blk β := h3
      rw [← h3]; exact h.own β0 h1 h2
    · exact .inr (Nat.le_trans h.size hge)
  · refine h'.keep b o (h.keep b o hb hn) fun β0 h1 h2 he => ?_
    rcases h.own β0 h1 h2 with ⟨β1, k1, k2, k3⟩ | hge
    · exact hn β1 k1 k2 (k3.trans he)
    · have := (Array.getElem?_eq_some_iff.1 hb).1
      have he : Z.blk β0 = b := he
      omega

noncomputable def stc1 (cal : Call) (d : Option Ds) (f : Od) (xs : List Od) (T : TT) (H : Hp) (c : Nat) : Option R3 :=
  match eOd T f with
  | .f id cs => match cal id (app (eOds T xs) cs) H c with
    | .ok v H c => some (putD d v T, H, c)
    | .no => none
  | _ => none
noncomputable def stg1 (cal : Call) (g : GO) (T : TT) (H : Hp) (c : Nat) : Option R3 :=
  match g with
  | .o a => run1 a T H c
  | .c none d f xs => stc1 cal d f xs T H c
  | .c (some p) d f xs => match eOd T p.1 with
    | .b v => if v = p.2 then stc1 cal d f xs T H c else some (putD d .n T, H, c)
    | .n => some (putD d .n T, H, c)
    | _ => none
theorem calK_eq (cal : Call) (d : Option Ds) (f : Od) (xs : List Od) (k : K) (T : TT) (H : Hp) (c : Nat) : calK cal d f xs k T H c = match stc1 cal d f xs T H c with | some r => k r.1 r.2.1 r.2.2 | none => .no := by
  unfold calK stc1
  generalize eOd T f = v
  cases v with
  | f id cs =>
    show CR.rec (motive := fun _ => Res) .no (fun v H c => k (putD d v T) H c) (cal id (app (eOds T xs) cs) H c) = _
    simp only
    cases cal id (app (eOds T xs) cs) H c <;> rfl
  | _ => rfl
theorem stG_eq (cal : Call) (g : GO) (k : K) (T : TT) (H : Hp) (c : Nat) : stG cal g k T H c = match stg1 cal g T H c with | some r => k r.1 r.2.1 r.2.2 | none => .no := by
  cases g with
  | o a => exact runA_run1 a k T H c
  | c g d f xs =>
    cases g with
    | none => exact calK_eq cal d f xs k T H c
    | some p =>
      show (eOd T p.1).rG (fun v => ifK (Bool.rec (motive := fun _ => Bool) (!p.2) p.2 v) (calK cal d f xs k T H c) (k (putD d .n T) H c)) (k (putD d .n T) H c) .no = _
      simp only [stg1]
      generalize eOd T p.1 = v
      cases v with
      | n => rfl
      | b v =>
        show ifK (Bool.rec (motive := fun _ => Bool) (!p.2) p.2 v) (calK cal d f xs k T H c) (k (putD d .n T) H c) = _
        rw [calK_eq]
        obtain ⟨p1, p2⟩ := p
        cases v <;> cases p2 <;> rfl
      | _ => rfl

theorem run1_le (a : A) : ∀ {T : TT} {H : Hp} {c : Nat} {r : R3}, run1 a T H c = some r → c ≤ r.2.2 ∧ (c ≤ 16384 → r.2.2 ≤ 16384) := by
  induction a with
  | fail => intro T H c r h; cases h
  | fin => intro T H c r h; cases h; exact ⟨Nat.le_refl _, id⟩
  | gt n g f ih => intro T H c r h; exact ih _ h
  | gh β f ih => intro T H c r h; exact ih _ (r_gh h).2
  | pt n s v f ih => intro T H c r h; exact ih h
  | ph β b f ih => intro T H c r h; exact ih (r_ph h).2
  | nw b f ih =>
    intro T H c r h
    obtain ⟨h1, h2⟩ := r_nw h
    obtain ⟨h3, h4⟩ := ih _ h2
    exact ⟨by omega, fun _ => h4 h1⟩
theorem stg1_le {cal : Call} (hle : CalLe cal) (g : GO) {r : R3} (h : stg1 cal g T H c = some r) : c ≤ r.2.2 ∧ (c ≤ 16384 → r.2.2 ≤ 16384) := by
  have hc : ∀ d f xs, stc1 cal d f xs T H c = some r → c ≤ r.2.2 ∧ (c ≤ 16384 → r.2.2 ≤ 16384) := by
    intro d f xs h
    unfold stc1 at h
    split at h
    · split at h
      · rename_i v H1 c1 h1
        cases h
        exact hle _ _ _ _ _ _ _ h1
      · cases h
    · cases h
  cases g with
  | o a => exact run1_le a h
  | c g d f xs =>
    cases g with
    | none => exact hc _ _ _ h
    | some p =>
      simp only [stg1] at h
      split at h
      · split at h
        · exact hc _ _ _ h
        · cases h; exact ⟨Nat.le_refl _, id⟩
      · cases h; exact ⟨Nat.le_refl _, id⟩
      · cases h
theorem optDs_ok (E : Env Γ.P od ds tt) {d : Option Nat} {dd : Option Ds} (h : optDs ds d = some dd) (hN : dOk N d = true) (hj : J Γ B N Z T H U a w) {x : SV} {v : Value} (hv : C Γ Z x v) : J Γ B N Z (putD dd x T) H U (a.put d v) w := by
  cases d with
  | none =>
    simp only [optDs, Option.some.injEq] at h
    subst h; exact hj
  | some t =>
    simp only [optDs] at h
    split at h
    · rename_i s hs
      cases h
      obtain ⟨h1, rfl⟩ := E.ds t s hs
      exact hj.put h1 (bltI hN) hv
    · cases h
theorem C_undef : C Γ Z .n undef := rfl

/-- One operation of a region. -/
theorem go_ok (E : Env Γ.P od ds tt) (hD : D.has Γ.n Γ.m) {cal : Call} (hcal : CalOK Γ cal) {ops : Array Oper} {i : Nat} {o : Oper} {g : GO} (ho : ops[i]? = some o) (hg : goOf D od ds tt N ops o = some g) (hc : c ≤ 16384) (hfx : FX Γ B.Z B.H B.w) (hj : J Γ B N Z T H U a w) {r : R3} (hfs : Fs U c r.2.2) (hr : stg1 cal g T H c = some r)
    {Kt : Act → World → Prop} {Q : Exit → Act → World → Prop} (hK : ∀ a' w' Z' U', Up U c r.2.2 U' → J Γ B N Z' r.1 r.2.1 U' a' w' → Kt a' w') : wpOp Γ.P ops Q i Kt a w := by
  unfold goOf at hg
  obtain ⟨hdk, hg⟩ := guardI hg
  obtain ⟨gd, hgd, hg⟩ := bindI hg
  obtain ⟨dd, hdd, hg⟩ := bindI hg
  -- the guard
  have hwant : match gd with
      | none => Region.wanted o (yielded ops a.tmps) = true
      | some (x, wt) => ∃ t, x = .t t (getT t) ∧ t < 256 ∧ ((∀ b, getT t T = .b b → Region.wanted o (yielded ops a.tmps) = (b == wt)) ∧ (getT t T = .n → Region.wanted o (yielded ops a.tmps) = false)) := by
    unfold gdOf at hgd
    split at hgd
    · rename_i hn
      cases hgd
      simp only [Region.wanted, hn]
    · rename_i j wt hn
      obtain ⟨p, hp, hgd⟩ := bindI hgd
      obtain ⟨t, ht, hgd⟩ := bindI hgd
      obtain ⟨htN, hgd⟩ := guardI hgd
      obtain ⟨x, hx, hgd⟩ := bindI hgd
      cases hgd
      obtain ⟨h1, rfl⟩ := E.od t x hx
      refine ⟨t, rfl, h1, fun b hb => ?_, fun hb => ?_⟩
      · have := hj.tm t h1
        rw [hb] at this
        have this : a.tmps.getD t undef = .bool b := this
        have hlt : t < a.tmps.size := by rw [hj.tsz]; exact bltI htN
        rw [Array.getD_eq_getD_getElem?, Array.getElem?_eq_getElem hlt, Option.getD_some] at this
        have hy : yielded ops a.tmps j = some b := by
          simp only [yielded, hp, Option.bind_some, ht, Array.getElem?_eq_getElem hlt, this]
        simp only [Region.wanted, hn, hy]
        cases b <;> cases wt <;> rfl
      · have := hj.tm t h1
        rw [hb] at this
        have this : a.tmps.getD t undef = undef := this
        have hlt : t < a.tmps.size := by rw [hj.tsz]; exact bltI htN
        rw [Array.getD_eq_getD_getElem?, Array.getElem?_eq_getElem hlt, Option.getD_some] at this
        have hy : yielded ops a.tmps j = none := by
          simp only [yielded, hp, Option.bind_some, ht, Array.getElem?_eq_getElem hlt, this]
          rfl
        simp only [Region.wanted, hn, hy]
        rfl
  unfold wpOp
  rw [ho]
  simp only
  have hskip : r = (putD dd .n T, H, c) → Kt (a.put o.dst undef) w := by
    intro h; subst h; exact hK _ _ Z U (Up.refl U c) (optDs_ok E hdd hdk hj C_undef)
  split at hg
  · -- a call
    rename_i f asx _ hop
    obtain ⟨fo, hfo, hg⟩ := bindI hg
    obtain ⟨xs, hxs, hg⟩ := bindI hg
    cases hg
    have hcallwp : ∀ r', Fs U c r'.2.2 → stc1 cal dd fo xs T H c = some r' → (∀ a' w' Z' U', Up U c r'.2.2 U' → J Γ B N Z' r'.1 r'.2.1 U' a' w' → Kt a' w') → o.wp Γ.P a w Kt Q := by
      intro r' hfs' h hK'
      unfold stc1 at h
      have hf := odOf_ok E hfo hj
      have has := odsOf_ok E hj hxs
      generalize eOd T fo = v at h hf
      cases v with
      | f id cs =>
        simp only at h
        split at h
        · rename_i v H1 c1 hc1
          cases h
          obtain ⟨vs, hv1, hv2⟩ := hf
          rw [app_eq] at hc1
          obtain ⟨⟨fn, code, q1, q2, q3⟩, hC⟩ := hcal Z H U c w id _ _ v H1 c1 hc hfs' hj.hk (hfx.step hj.fr) (has.append hv2) hc1
          have hargs : (#[] ++ asx.map a.eval ++ vs.toArray : Array Value) = (asx.toList.map a.eval ++ vs).toArray := by
            apply Array.ext'; simp
          have hrun : (execOp a.eval o).run Γ.P w = .ok (.enter id (asx.toList.map a.eval ++ vs).toArray) w := by
            have : execOp a.eval o = callFunc id (#[] ++ asx.map a.eval ++ vs.toArray) := by
              unfold execOp
              rw [hop]
              simp only [resolve, hv1]
              rfl
            rw [this, hargs]
            have q3' : ¬ fn.name = "runtime.NumGoroutine" := by simpa using q3
            simp [callFunc, q1, q3', q2]
          unfold Oper.wp
          rw [hrun, Oper.upon_enter]
          refine Calls.mono hC fun e w'' he => ?_
          obtain ⟨u, Z', U', rfl, k1, k0, k2, k3⟩ := he
          have hj' : J Γ B N Z' T H1 U' a w'' := ⟨fun t ht => (hj.tm t ht).mono Γ k3.ext, hj.defers, hj.tsz, k2, hj.fr.trans k3⟩
          exact hK' _ _ Z' U' k0 (optDs_ok E hdd hdk hj' k1)
        · cases h
      | _ => cases h
    cases gd with
    | none =>
      rw [if_pos hwant]
      exact .inl (hcallwp r hfs hr hK)
    | some p =>
      obtain ⟨x, wt⟩ := p
      obtain ⟨t, rfl, ht, hb, hn⟩ := hwant
      replace hr : (match getT t T with
        | .b v => if v = wt then stc1 cal dd fo xs T H c else some (putD dd .n T, H, c)
        | .n => some (putD dd .n T, H, c)
        | _ => none) = some r := hr
      split at hr
      · rename_i v hv
        rw [hb v hv]
        by_cases hvw : v = wt
        · rw [if_pos hvw] at hr
          rw [if_pos (by simp [hvw])]
          exact .inl (hcallwp r hfs hr hK)
        · rw [if_neg hvw] at hr
          cases hr
          rw [if_neg (by simpa using hvw)]
          exact hskip rfl
      · rename_i hv
        cases hr
        rw [hn hv, if_neg (by simp)]
        exact hskip rfl
      · cases hr
  · -- no call
    have hA : OpOK Γ o.dst o.op (aF (aOf D od ds tt o.dst o.op)) := by
      unfold aF
      split
      · rename_i x hx; exact aOf_ok E hD hx
      · exact failOK
    cases hg
    generalize aF (aOf D od ds tt o.dst o.op) = A0 at hA hr
    have hopwp : run1 A0 T H c = some r → o.wp Γ.P a w Kt Q := by
      intro h
      unfold Oper.wp
      rcases hA B N Z T H U c r a w o rfl rfl hdk hc hfs hj h with ⟨v, w', h1, Z', U', h0, h2⟩ | ⟨w', h1, Z', U', h0, h2⟩
      · rw [h1]; exact hK _ _ Z' U' h0 h2
      · rw [h1]; exact hK _ _ Z' U' h0 h2
    cases gd with
    | none =>
      rw [if_pos hwant]
      exact .inl (hopwp hr)
    | some p =>
      obtain ⟨x, wt⟩ := p
      obtain ⟨t, rfl, ht, hb, hn⟩ := hwant
      replace hr : run1 (rdo (.t t (getT t)) fun v => v.aG (fun v => ifA (Bool.rec (motive := fun _ => Bool) (!wt) wt v) A0 (skA dd)) (skA dd) .fail) T H c = some r := hr
      rw [r_rdo] at hr
      replace hr : run1 ((getT t T).aG (fun v => ifA (Bool.rec (motive := fun _ => Bool) (!wt) wt v) A0 (skA dd)) (skA dd) .fail) T H c = some r := hr
      have hsk : run1 (skA dd) T H c = some r → r = (putD dd .n T, H, c) := by
        intro h
        cases dd with
        | none => simp only [skA, run1, Option.some.injEq] at h; exact h.symm
        | some d => exact r_pd h
      generalize hv : getT t T = v at hr
      cases v with
      | n =>
        rw [hn hv, if_neg (by simp)]
        exact hskip (hsk hr)
      | b v =>
        rw [hb v hv]
        have hr : run1 (ifA (Bool.rec (motive := fun _ => Bool) (!wt) wt v) A0 (skA dd)) T H c = some r := hr
        rcases r_if hr with ⟨e, h⟩ | ⟨e, h⟩
        · rw [if_pos (by cases v <;> cases wt <;> first | rfl | (cases e; done))]
          exact .inl (hopwp h)
        · rw [if_neg (by cases v <;> cases wt <;> first | (cases e; done) | simp)]
          exact hskip (hsk h)
      | _ => cases hr
end

end Go.Sy

namespace Go.Sy
open Go

section
variable {Γ : Cx} {od : Nat → Option Od} {ds : Nat → Option Ds} {tt : Nat → TI} {B : Bs} {N : Nat} {D : Rg}

/-- What a result says of the machine. -/
def RPost (Γ : Cx) (B : Bs) (N : Nat) (U : Nat → Prop) (c0 : Nat) (r : Res) (e : Exit) (a : Act) (w : World) : Prop :=
  match r with
  | .no => False
  | .nrm T H c => e = .normal ∧ ∃ Z U', Up U c0 c U' ∧ J Γ B N Z T H U' a w
  | .ex id T H c => e = .exit id ∧ ∃ Z U', Up U c0 c U' ∧ J Γ B N Z T H U' a w
  | .rt T H c => e = .ret ∧ ∃ Z U', Up U c0 c U' ∧ J Γ B N Z T H U' a w
/-- Where a result's numbers end. -/
def Res.top : Res → Nat
  | .no => 0
  | .nrm _ _ c => c
  | .ex _ _ _ c => c
  | .rt _ _ c => c
/-- What came before, and what comes behind. -/
theorem RPost.before {U U1 : Nat → Prop} {c0 c1 : Nat} {r : Res} {e : Exit} {a : Act} {w : World} (h : RPost Γ B N U1 c1 r e a w) (hu : Up U c0 c1 U1) : RPost Γ B N U c0 r e a w := by
  cases r with
  | no => exact h.elim
  | nrm T H c => obtain ⟨h1, Z, U', h2, h3⟩ := h; exact ⟨h1, Z, U', hu.trans h2, h3⟩
  | ex id T H c => obtain ⟨h1, Z, U', h2, h3⟩ := h; exact ⟨h1, Z, U', hu.trans h2, h3⟩
  | rt T H c => obtain ⟨h1, Z, U', h2, h3⟩ := h; exact ⟨h1, Z, U', hu.trans h2, h3⟩

theorem rgN_cons (cal : Call) (g : GO) (l : List GO) (T : TT) (H : Hp) (c : Nat) : rgN cal (g :: l) T H c = match stg1 cal g T H c with | some r => rgN cal l r.1 r.2.1 r.2.2 | none => .no := stG_eq cal g (rgN cal l) T H c

theorem rgN_le {cal : Call} (hle : CalLe cal) (l : List GO) : ∀ (T : TT) (H : Hp) (c : Nat), rgN cal l T H c ≠ .no → c ≤ (rgN cal l T H c).top ∧ (c ≤ 16384 → (rgN cal l T H c).top ≤ 16384) := by
  induction l with
  | nil => intro T H c _; exact ⟨Nat.le_refl _, id⟩
  | cons g l ih =>
    intro T H c hne
    rw [rgN_cons] at hne ⊢
    cases hs : stg1 cal g T H c with
    | none => rw [hs] at hne; exact absurd rfl hne
    | some r =>
      rw [hs] at hne
      obtain ⟨h1, h2⟩ := stg1_le hle g hs
      obtain ⟨h3, h4⟩ := ih _ _ _ hne
      exact ⟨Nat.le_trans h1 h3, fun h => h4 (h2 h)⟩
/-- A region in the text's order. -/
theorem rg_ok (E : Env Γ.P od ds tt) (hD : D.has Γ.n Γ.m) {cal : Call} (hcal : CalOK Γ cal) (hle : CalLe cal) (hfx : FX Γ B.Z B.H B.w) {ops : Array Oper} : ∀ (os : List Oper) (pre : Nat) (l : List GO) (T : TT) (H : Hp) (U : Nat → Prop) (c : Nat) (a : Act) (w : World) (Z : Zm) (Q : Exit → Act → World → Prop),
    (∀ i, i < os.length → ops[pre + i]? = os[i]?) → gosOf D od ds tt N ops os = some l → c ≤ 16384 → J Γ B N Z T H U a w → rgN cal l T H c ≠ .no → Fs U c (rgN cal l T H c).top → (∀ a w, RPost Γ B N U c (rgN cal l T H c) .normal a w → Q .normal a w) →
    wpOps Γ.P ops Q (List.range' pre os.length) a w := by
  intro os
  induction os with
  | nil =>
    intro pre l T H U c a w Z Q _ hg _ hj _ _ hQ
    simp only [gosOf, Option.some.injEq] at hg
    subst hg
    exact hQ a w ⟨rfl, Z, U, Up.refl U c, hj⟩
  | cons o os ih =>
    intro pre l T H U c a w Z Q hpre hg hc hj hne hf hQ
    simp only [gosOf] at hg
    split at hg
    · rename_i g l' h1 h2
      cases hg
      rw [rgN_cons] at hne hQ hf
      cases hs : stg1 cal g T H c with
      | none => rw [hs] at hne; exact absurd rfl hne
      | some r =>
        rw [hs] at hne hQ hf
        obtain ⟨l1, l2⟩ := stg1_le hle g hs
        obtain ⟨l3, l4⟩ := rgN_le hle l' _ _ _ hne
        have hrange : List.range' pre (o :: os).length = pre :: List.range' (pre + 1) os.length := by simp [List.range'_succ]
        rw [hrange, wpOps_cons]
        refine go_ok E hD hcal (by have := hpre 0 (by simp); simpa using this) h1 hc hfx hj (hf.less l3) hs fun a' w' Z' U' hu hj' => ?_
        refine ih (pre + 1) l' _ _ U' _ a' w' Z' Q (fun i hi => ?_) h2 (l2 hc) hj' hne (hu.fresh hf) (fun a w hp => hQ a w (hp.before hu))
        have := hpre (i + 1) (by simpa using hi)
        rw [← Nat.add_assoc, Nat.add_right_comm] at this
        simpa using this
    · cases hg
theorem rgN_nrm (cal : Call) (l : List GO) (T : TT) (H : Hp) (c : Nat) : rgN cal l T H c = .no ∨ ∃ T' H' c', rgN cal l T H c = .nrm T' H' c' := by
  induction l generalizing T H c with
  | nil => exact .inr ⟨T, H, c, rfl⟩
  | cons g l ih =>
    rw [rgN_cons]
    cases stg1 cal g T H c with
    | none => exact .inl rfl
    | some r => exact ih _ _ _

/-- What is asked of regions in any order. -/
def RdOK (Γ : Cx) (D : Rg) (od : Nat → Option Od) (ds : Nat → Option Ds) (tt : Nat → TI) (N : Nat) (cal : Call) : Prop :=
  ∀ (B : Bs) (id : Nat) (ops : Array Oper) (l : List GO) (an : List Nat), FX Γ B.Z B.H B.w → gosOf D od ds tt N ops ops.toList = some l → ancOf ops.toList 0 [] = some an → tmpOk [] (oisOf ops ops.toList an) = true →
    ∀ T H U c a w Z, c ≤ 16384 → Fs U c (rdf cal (zipO l an) T H c).top → J Γ B N Z T H U a w → rdf cal (zipO l an) T H c ≠ .no → (Code.region id ops true).wp Γ.P (RPost Γ B N U c (rdf cal (zipO l an) T H c)) a w

theorem ifK_ne {b : Bool} {x y : Res} (h : ifK b x y ≠ .no) : (b = true ∧ ifK b x y = x) ∨ (b = false ∧ ifK b x y = y) := by
  cases b with
  | true => exact .inl ⟨rfl, rfl⟩
  | false => exact .inr ⟨rfl, rfl⟩
theorem rdN_cons (cal : Call) (g : GO × Nat) (l : List (GO × Nat)) (k : Nat) (acc : List Rec) (T : TT) (H : Hp) (c : Nat) : rdN cal (g :: l) k acc T H c = match stg1 cal g.1 T H c with
    | some r => ifK (pureR (mkR k (fpG g.1 T H c) c r.2.2 H r.2.1)) (rdN cal l (k + 1) acc r.1 r.2.1 r.2.2)
        (ifK (okR g.2 acc (mkR k (fpG g.1 T H c) c r.2.2 H r.2.1)) (rdN cal l (k + 1) (mkR k (fpG g.1 T H c) c r.2.2 H r.2.1 :: acc) r.1 r.2.1 r.2.2) .no)
    | none => .no := stG_eq cal g.1 _ T H c
theorem rdN_le {cal : Call} (hle : CalLe cal) (l : List (GO × Nat)) : ∀ (k : Nat) (acc : List Rec) (T : TT) (H : Hp) (c : Nat), rdN cal l k acc T H c ≠ .no → c ≤ (rdN cal l k acc T H c).top ∧ (c ≤ 16384 → (rdN cal l k acc T H c).top ≤ 16384) := by
  induction l with
  | nil => intro k acc T H c hne; exact ⟨Nat.le_refl _, id⟩
  | cons g l ih =>
    intro k acc T H c hne
    rw [rdN_cons] at hne ⊢
    cases hs : stg1 cal g.1 T H c with
    | none => rw [hs] at hne; exact absurd rfl hne
    | some r =>
      rw [hs] at hne
      obtain ⟨h1, h2⟩ := stg1_le hle g.1 hs
      simp only at hne ⊢
      rcases ifK_ne hne with ⟨_, e⟩ | ⟨_, e⟩
      · rw [e] at hne ⊢
        obtain ⟨h3, h4⟩ := ih _ _ _ _ _ hne
        exact ⟨Nat.le_trans h1 h3, fun h => h4 (h2 h)⟩
      · rw [e] at hne ⊢
        rcases ifK_ne hne with ⟨_, e'⟩ | ⟨_, e'⟩
        · rw [e'] at hne ⊢
          obtain ⟨h3, h4⟩ := ih _ _ _ _ _ hne
          exact ⟨Nat.le_trans h1 h3, fun h => h4 (h2 h)⟩
        · rw [e'] at hne; exact absurd rfl hne
theorem lpN_le {f : K} (hf : ∀ T H c, f T H c ≠ .no → c ≤ (f T H c).top ∧ (c ≤ 16384 → (f T H c).top ≤ 16384)) (n : Nat) : ∀ T H c, lpN f n T H c ≠ .no → c ≤ (lpN f n T H c).top ∧ (c ≤ 16384 → (lpN f n T H c).top ≤ 16384) := by
  induction n with
  | zero => intro T H c hne; exact absurd rfl hne
  | succ n ih =>
    intro T H c hne
    have e : lpN f (n + 1) T H c = Res.rec (motive := fun _ => Res) .no (lpN f n) .ex .rt (f T H c) := rfl
    rw [e] at hne ⊢
    have h1 := hf T H c
    cases hr : f T H c with
    | no => rw [hr] at hne; exact absurd rfl hne
    | nrm T1 H1 c1 =>
      rw [hr] at hne h1
      obtain ⟨h2, h3⟩ := h1 (by simp)
      obtain ⟨h4, h5⟩ := ih T1 H1 c1 hne
      exact ⟨Nat.le_trans h2 h4, fun h => h5 (h3 h)⟩
    | ex id T1 H1 c1 => rw [hr] at h1; exact h1 (by simp)
    | rt T1 H1 c1 => rw [hr] at h1; exact h1 (by simp)
theorem evC_le {cal : Call} (hle : CalLe cal) (sc : SC) : ∀ T H c, evC (rdf cal) cal sc T H c ≠ .no → c ≤ (evC (rdf cal) cal sc T H c).top ∧ (c ≤ 16384 → (evC (rdf cal) cal sc T H c).top ≤ 16384) := by
  induction sc with
  | sk => intro T H c _; exact ⟨Nat.le_refl _, id⟩
  | rg ops => intro T H c hne; exact rgN_le hle ops T H c hne
  | rd ops => intro T H c hne; exact rdN_le hle ops 0 [] T H c hne
  | sq x y ihx ihy =>
    intro T H c hne
    have e : evC (rdf cal) cal (.sq x y) T H c = Res.rec (motive := fun _ => Res) .no (evC (rdf cal) cal y) .ex .rt (evC (rdf cal) cal x T H c) := rfl
    rw [e] at hne ⊢
    have h1 := ihx T H c
    cases hr : evC (rdf cal) cal x T H c with
    | no => rw [hr] at hne; exact absurd rfl hne
    | nrm T1 H1 c1 =>
      rw [hr] at hne h1
      obtain ⟨h2, h3⟩ := h1 (by simp)
      obtain ⟨h4, h5⟩ := ihy T1 H1 c1 hne
      exact ⟨Nat.le_trans h2 h4, fun h => h5 (h3 h)⟩
    | ex id T1 H1 c1 => rw [hr] at h1; exact h1 (by simp)
    | rt T1 H1 c1 => rw [hr] at h1; exact h1 (by simp)
  | cd o x y ihx ihy =>
    intro T H c hne
    have e : evC (rdf cal) cal (.cd o x y) T H c = (eOd T o).rB (fun v => ifK v (evC (rdf cal) cal x T H c) (evC (rdf cal) cal y T H c)) .no := rfl
    rw [e] at hne ⊢
    generalize eOd T o = v at hne ⊢
    cases v with
    | b v =>
      cases v with
      | true => exact ihx T H c hne
      | false => exact ihy T H c hne
    | _ => exact absurd rfl hne
  | bl id x ih =>
    intro T H c hne
    have e : evC (rdf cal) cal (.bl id x) T H c = Res.rec (motive := fun _ => Res) .no Res.nrm (fun id' T H c => ifK (Nat.beq id' id) (.nrm T H c) (.ex id' T H c)) .rt (evC (rdf cal) cal x T H c) := rfl
    rw [e] at hne ⊢
    have h1 := ih T H c
    cases hr : evC (rdf cal) cal x T H c with
    | no => rw [hr] at hne; exact absurd rfl hne
    | nrm T1 H1 c1 => rw [hr] at h1; exact h1 (by simp)
    | ex id' T1 H1 c1 =>
      rw [hr] at h1
      have h2 := h1 (by simp)
      show c ≤ (ifK (Nat.beq id' id) (Res.nrm T1 H1 c1) (.ex id' T1 H1 c1)).top ∧ (c ≤ 16384 → (ifK (Nat.beq id' id) (Res.nrm T1 H1 c1) (.ex id' T1 H1 c1)).top ≤ 16384)
      cases Nat.beq id' id <;> exact h2
    | rt T1 H1 c1 => rw [hr] at h1; exact h1 (by simp)
  | lp x ih => intro T H c hne; exact lpN_le ih 1000 T H c hne
  | ex id' => intro T H c _; exact ⟨Nat.le_refl _, id⟩
  | rt => intro T H c _; exact ⟨Nat.le_refl _, id⟩

theorem body_ok (E : Env Γ.P od ds tt) (hD : D.has Γ.n Γ.m) {cal : Call} (hcal : CalOK Γ cal) (hle : CalLe cal) (hrd : RdOK Γ D od ds tt N cal) (hfx : FX Γ B.Z B.H B.w) (cd : Code) : ∀ (sc : SC) (T : TT) (H : Hp) (U : Nat → Prop) (c : Nat) (a : Act) (w : World) (Z : Zm), scOf D od ds tt N cd = some sc → c ≤ 16384 → Fs U c (evC (rdf cal) cal sc T H c).top → J Γ B N Z T H U a w →
    evC (rdf cal) cal sc T H c ≠ .no → cd.wp Γ.P (RPost Γ B N U c (evC (rdf cal) cal sc T H c)) a w := by
  induction cd with
  | skip =>
    intro sc T H U c a w Z hs hc hf hj hne
    simp only [scOf, Option.some.injEq] at hs
    subst hs
    exact wp_skip ⟨rfl, Z, U, Up.refl U c, hj⟩
  | region id ops draw =>
    intro sc T H U c a w Z hs hc hf hj hne
    cases draw with
    | false =>
      simp only [scOf] at hs
      split at hs
      · rename_i l hl
        cases hs
        have h := rg_ok (Q := RPost Γ B N U c (rgN cal l T H c)) E hD hcal hle hfx ops.toList 0 l T H U c a w Z (fun i _ => by rw [Nat.zero_add, Array.getElem?_toList]) hl hc hj hne hf (fun _ _ h => h)
        have e : evC (rdf cal) cal (.rg l) T H c = rgN cal l T H c := rfl
        rw [e]
        refine wp_region ?_
        rw [List.range_eq_range']
        simpa using h
      · cases hs
    | true =>
      simp only [scOf] at hs
      split at hs
      · rename_i l an hl han
        split at hs
        · rename_i htm
          cases hs
          exact hrd B id ops l an hfx hl han htm T H U c a w Z hc hf hj hne
        · cases hs
      · cases hs
  | seq p q ihp ihq =>
    intro sc T H U c a w Z hs hc hf hj hne
    simp only [scOf] at hs
    split at hs
    · rename_i x y hx hy
      cases hs
      have e : evC (rdf cal) cal (.sq x y) T H c = Res.rec (motive := fun _ => Res) .no (evC (rdf cal) cal y) .ex .rt (evC (rdf cal) cal x T H c) := rfl
      rw [e] at hne hf ⊢
      refine wp_seq ?_
      have h1 := ihp x T H U c a w Z hx hc
      cases hr : evC (rdf cal) cal x T H c with
      | no => rw [hr] at hne; exact absurd rfl hne
      | nrm T1 H1 c1 =>
        have l1 := evC_le hle x T H c (by rw [hr]; simp)
        rw [hr] at hne h1 hf l1
        have l2 := evC_le hle y T1 H1 c1 hne
        refine wp_mono (h1 (hf.less l2.1) hj (by simp)) ?_
        rintro e' a1 w1 ⟨rfl, Z1, U1, hu1, hj1⟩
        exact wp_mono (ihq y T1 H1 U1 c1 a1 w1 Z1 hy (l1.2 hc) (hu1.fresh hf) hj1 hne) fun e a w hp => hp.before hu1
      | ex id T1 H1 c1 =>
        rw [hr] at h1 hf
        refine wp_mono (h1 hf hj (by simp)) ?_
        rintro e' a1 w1 ⟨rfl, Z1, U1, hu1, hj1⟩
        exact ⟨rfl, Z1, U1, hu1, hj1⟩
      | rt T1 H1 c1 =>
        rw [hr] at h1 hf
        refine wp_mono (h1 hf hj (by simp)) ?_
        rintro e' a1 w1 ⟨rfl, Z1, U1, hu1, hj1⟩
        exact ⟨rfl, Z1, U1, hu1, hj1⟩
    · cases hs
  | cond o p q ihp ihq =>
    intro sc T H U c a w Z hs hc hf hj hne
    simp only [scOf] at hs
    split at hs
    · rename_i od' x y ho hx hy
      cases hs
      have e : evC (rdf cal) cal (.cd od' x y) T H c = (eOd T od').rB (fun v => ifK v (evC (rdf cal) cal x T H c) (evC (rdf cal) cal y T H c)) .no := rfl
      rw [e] at hne hf ⊢
      have h1 := odOf_ok E ho hj
      generalize eOd T od' = v at hne hf h1 ⊢
      cases v with
      | b v =>
        have h1 : a.eval o = .bool v := h1
        cases v with
        | true => exact wp_cond_true h1 (ihp x T H U c a w Z hx hc hf hj hne)
        | false => exact wp_cond_false h1 (ihq y T H U c a w Z hy hc hf hj hne)
      | _ => exact absurd rfl hne
    · cases hs
  | block id p ih =>
    intro sc T H U c a w Z hs hc hf hj hne
    simp only [scOf] at hs
    split at hs
    · rename_i x hx
      cases hs
      have e : evC (rdf cal) cal (.bl id x) T H c = Res.rec (motive := fun _ => Res) .no Res.nrm (fun id' T H c => ifK (Nat.beq id' id) (.nrm T H c) (.ex id' T H c)) .rt (evC (rdf cal) cal x T H c) := rfl
      rw [e] at hne hf ⊢
      refine wp_block ?_
      have h1 := ih x T H U c a w Z hx hc
      cases hr : evC (rdf cal) cal x T H c with
      | no => rw [hr] at hne; exact absurd rfl hne
      | nrm T1 H1 c1 =>
        rw [hr] at h1 hf
        refine wp_mono (h1 hf hj (by simp)) ?_
        rintro e' a1 w1 ⟨rfl, Z1, U1, hu1, hj1⟩
        exact ⟨rfl, Z1, U1, hu1, hj1⟩
      | ex id' T1 H1 c1 =>
        rw [hr] at h1 hf
        have hf : Fs U c c1 := by
          have hf : Fs U c (ifK (Nat.beq id' id) (Res.nrm T1 H1 c1) (.ex id' T1 H1 c1)).top := hf
          cases hb : Nat.beq id' id <;> rw [hb] at hf <;> exact hf
        refine wp_mono (h1 hf hj (by simp)) ?_
        rintro e' a1 w1 ⟨rfl, Z1, U1, hu1, hj1⟩
        show if id' = id then RPost Γ B N U c (ifK (Nat.beq id' id) (.nrm T1 H1 c1) (.ex id' T1 H1 c1)) .normal a1 w1 else RPost Γ B N U c (ifK (Nat.beq id' id) (.nrm T1 H1 c1) (.ex id' T1 H1 c1)) (.exit id') a1 w1
        by_cases hid : id' = id
        · subst hid
          rw [if_pos rfl, beqT]
          exact ⟨rfl, Z1, U1, hu1, hj1⟩
        · rw [if_neg hid, beqF hid]
          exact ⟨rfl, Z1, U1, hu1, hj1⟩
      | rt T1 H1 c1 =>
        rw [hr] at h1 hf
        refine wp_mono (h1 hf hj (by simp)) ?_
        rintro e' a1 w1 ⟨rfl, Z1, U1, hu1, hj1⟩
        exact ⟨rfl, Z1, U1, hu1, hj1⟩
    · cases hs
  | loop p ih =>
    intro sc T H U c a w Z hs hc hf hj hne
    simp only [scOf] at hs
    split at hs
    · rename_i x hx
      cases hs
      have e : evC (rdf cal) cal (.lp x) T H c = lpN (evC (rdf cal) cal x) 1000 T H c := rfl
      rw [e] at hne hf ⊢
      obtain ⟨res, hres⟩ : ∃ res, res = lpN (evC (rdf cal) cal x) 1000 T H c := ⟨_, rfl⟩
      rw [← hres] at hne hf ⊢
      classical
      let L : Nat → Act → World → Prop := fun k a w => ∃ T1 H1 c1 Z1 U1, lpN (evC (rdf cal) cal x) k T1 H1 c1 = res ∧ c1 ≤ 16384 ∧ Up U c c1 U1 ∧ J Γ B N Z1 T1 H1 U1 a w
      let I : Act → World → Prop := fun a w => ∃ k, L k a w
      let μ : Act → World → Nat := fun a w => if h : ∃ k, L k a w then Classical.choose (Lgo.least h) else 0
      refine wp_loop I μ ⟨1000, T, H, c, Z, U, hres.symm, hc, Up.refl U c, hj⟩ ?_
      intro a w hI
      have hμ : μ a w = Classical.choose (Lgo.least hI) := by simp only [μ]; exact dif_pos hI
      obtain ⟨T1, H1, c1, Z1, U1, hx1, hc1, hu1, hj1⟩ := (Classical.choose_spec (Lgo.least hI)).1
      rw [hμ]
      cases hk : Classical.choose (Lgo.least hI) with
      | zero => rw [hk] at hx1; exact absurd hx1.symm hne
      | succ k =>
        rw [hk] at hx1
        have e2 : lpN (evC (rdf cal) cal x) (k + 1) T1 H1 c1 = Res.rec (motive := fun _ => Res) .no (lpN (evC (rdf cal) cal x) k) .ex .rt (evC (rdf cal) cal x T1 H1 c1) := rfl
        rw [e2] at hx1
        have h1 := ih x T1 H1 U1 c1 a w Z1 hx hc1
        have hl1 := evC_le hle x T1 H1 c1
        have hf1 := hu1.fresh hf
        cases hr : evC (rdf cal) cal x T1 H1 c1 with
        | no => rw [hr] at hx1; exact absurd hx1.symm hne
        | nrm T2 H2 c2 =>
          rw [hr] at hx1 h1 hl1
          have hx2 : lpN (evC (rdf cal) cal x) k T2 H2 c2 = res := hx1
          have hl2 := lpN_le (evC_le hle x) k T2 H2 c2 (by rw [hx2]; exact hne)
          rw [hx2] at hl2
          refine wp_mono (h1 (hf1.less hl2.1) hj1 (by simp)) ?_
          rintro e' a2 w2 ⟨rfl, Z2, U2, hu2, hj2⟩
          have hc2 := (hl1 (by simp)).2 hc1
          have hI2 : ∃ k, L k a2 w2 := ⟨k, T2, H2, c2, Z2, U2, hx2, hc2, hu1.trans hu2, hj2⟩
          refine ⟨hI2, ?_⟩
          have : μ a2 w2 = Classical.choose (Lgo.least hI2) := by simp only [μ]; exact dif_pos hI2
          rw [this]
          exact Nat.lt_succ_of_le ((Classical.choose_spec (Lgo.least hI2)).2 k ⟨T2, H2, c2, Z2, U2, hx2, hc2, hu1.trans hu2, hj2⟩)
        | ex id T2 H2 c2 =>
          rw [hr] at hx1 h1
          have hx1 : Res.ex id T2 H2 c2 = res := hx1
          have hf2 : Fs U1 c1 c2 := by rw [← hx1] at hf1; exact hf1
          refine wp_mono (h1 hf2 hj1 (by simp)) ?_
          rintro e' a2 w2 ⟨rfl, Z2, U2, hu2, hj2⟩
          show RPost Γ B N U c res (.exit id) a2 w2
          rw [← hx1]; exact ⟨rfl, Z2, U2, hu1.trans hu2, hj2⟩
        | rt T2 H2 c2 =>
          rw [hr] at hx1 h1
          have hx1 : Res.rt T2 H2 c2 = res := hx1
          have hf2 : Fs U1 c1 c2 := by rw [← hx1] at hf1; exact hf1
          refine wp_mono (h1 hf2 hj1 (by simp)) ?_
          rintro e' a2 w2 ⟨rfl, Z2, U2, hu2, hj2⟩
          show RPost Γ B N U c res .ret a2 w2
          rw [← hx1]; exact ⟨rfl, Z2, U2, hu1.trans hu2, hj2⟩
    · cases hs
  | exit id =>
    intro sc T H U c a w Z hs hc hf hj hne
    simp only [scOf, Option.some.injEq] at hs
    subst hs
    exact wp_exit ⟨rfl, Z, U, Up.refl U c, hj⟩
  | ret =>
    intro sc T H U c a w Z hs hc hf hj hne
    simp only [scOf, Option.some.injEq] at hs
    subst hs
    exact wp_ret ⟨rfl, Z, U, Up.refl U c, hj⟩
  | _ => intro sc T H U c a w Z hs hc hf hj hne; simp [scOf] at hs
end

end Go.Sy

namespace Go.Sy
open Go

section
variable {Γ : Cx} {od : Nat → Option Od} {ds : Nat → Option Ds} {tt : Nat → TI} {B : Bs} {N : Nat} {D : Rg} {Z : Zm} {T : TT} {H : Hp} {U : Nat → Prop} {c : Nat} {a : Act} {w : World}

theorem getT_T0 (t : Nat) : getT t T0 = .n := by
  have h3 : ∀ i, TT.sel T0 i = Q000 := by intro i; unfold TT.sel; split <;> rfl
  have h2 : ∀ i, Q3.sel Q000 i = Q00 := by intro i; unfold Q3.sel; split <;> rfl
  have h1 : ∀ i, Q2.sel Q00 i = Q0 := by intro i; unfold Q2.sel; split <;> rfl
  have h0 : ∀ i, Q1.sel Q0 i = .n := by intro i; unfold Q1.sel; split <;> rfl
  unfold getT
  rw [h3, h2, h1, h0]
theorem argT_get (E : Env Γ.P od ds tt) : ∀ (xs : List SV) (k : Nat) (T T' : TT), argT ds xs k T = some T' → (∀ t, t < 256 → getT t T' = if k ≤ t ∧ t < k + xs.length then xs.getD (t - k) .n else getT t T) := by
  intro xs
  induction xs with
  | nil =>
    intro k T T' h t ht
    cases h
    rw [if_neg (by simp only [List.length_nil]; omega)]
  | cons x xs ih =>
    intro k T T' h t ht
    have h : Option.rec (motive := fun _ => Option TT) none (fun d => argT ds xs (k + 1) (d.s x T)) (ds k) = some T' := h
    cases hd : ds k with
    | none => rw [hd] at h; cases h
    | some d =>
      rw [hd] at h
      have h : argT ds xs (k + 1) (d.s x T) = some T' := h
      obtain ⟨h1, rfl⟩ := E.ds k d hd
      rw [ih (k + 1) _ T' h t ht]
      show (if _ then _ else getT t (putT k x T)) = _
      rw [get_putT T x h1 ht]
      by_cases e : t = k
      · subst e
        rw [if_neg (by omega), if_pos rfl, if_pos (by simp)]
        simp
      · by_cases e2 : k + 1 ≤ t ∧ t < k + 1 + xs.length
        · rw [if_pos e2, if_pos (by simp only [List.length_cons]; omega)]
          have : t - k = (t - (k + 1)) + 1 := by omega
          rw [this, List.getD_cons_succ]
        · rw [if_neg e2, if_neg e, if_neg (by simp only [List.length_cons]; omega)]

theorem rv_ok (E : Env Γ.P od ds tt) {x : ResultVar} {y : RV} (h : rvOf od tt x = some y) (hc16 : c ≤ 16384) (hj : J Γ B N Z T H U a w) {v : SV} (hr : res1 y T H c = some v) : ∃ u, (Lgo.resVar a.tmps x).run Γ.P w = .ok u w ∧ C Γ Z v u := by
  cases x with
  | tmp t =>
    simp only [rvOf] at h
    split at h
    · rename_i o ho
      cases h
      obtain ⟨h1, rfl⟩ := E.od t o ho
      have hr : some (getT t T) = some v := hr
      cases hr
      exact ⟨_, rfl, hj.tm t h1⟩
    · cases h
  | cell t ty =>
    simp only [rvOf] at h
    split at h
    · rename_i o ho
      split at h
      · rename_i hok
        cases h
        obtain ⟨h1, rfl⟩ := E.od t o ho
        have ht := hj.tm t h1
        have hr : (getT t T).oP (fun β off => ifL (Nat.blt β c) (HB.rec (motive := fun _ => Option SV) none
          (fun _ cs => Option.rec (motive := fun _ => Option SV) none (fun l => pack (tt ty).agg l) (rng cs off (tt ty).size)) (fun _ => none) (H.get β)) none) none = some v := hr
        generalize getT t T = q at hr ht
        cases q with
        | p β off =>
          obtain ⟨g1, g2⟩ := ht
          have hr : ifL (Nat.blt β c) (HB.rec (motive := fun _ => Option SV) none
            (fun _ cs => Option.rec (motive := fun _ => Option SV) none (fun l => pack (tt ty).agg l) (rng cs off (tt ty).size)) (fun _ => none) (H.get β)) none = some v := hr
          cases hb : Nat.blt β c with
          | false => rw [hb] at hr; cases hr
          | true =>
            rw [hb, ifL_true] at hr
            have hβ := Nat.lt_of_lt_of_le (bltI hb) hc16
            have hh := hj.hk.ok β hβ
            generalize H.get β = hbk at hr hh
            cases hbk with
            | hb es cs =>
              have hr : Option.rec (motive := fun _ => Option SV) none (fun l => pack (tt ty).agg l) (rng cs off (tt ty).size) = some v := hr
              cases hrg : rng cs off (tt ty).size with
              | none => rw [hrg] at hr; cases hr
              | some l =>
                rw [hrg] at hr
                obtain ⟨arr, e, fr, us, k1, k2, k3, k4, k5⟩ := cells_of hh hrg
                have hld := run_loadVarS E.tt hok k1 k3 k5
                refine ⟨_, ?_, pack_ok hr k2 k4⟩
                unfold Lgo.resVar
                simp only [g2, asAddr, Sem.run_bind, Sem.run_pure, Result.andThen_ok, hld]
            | dead => cases hr
            | mp es => cases hr
        | _ => cases hr
      · cases h
    · cases h
theorem rvs_ok (E : Env Γ.P od ds tt) (hc16 : c ≤ 16384) (hj : J Γ B N Z T H U a w) : ∀ {xs : List ResultVar} {ys : List RV} {l : List SV}, rvsOf od tt xs = some ys → ress T H c ys = some l → ∃ us, (xs.mapM (Lgo.resVar a.tmps)).run Γ.P w = .ok us w ∧ Cs Γ Z l us := by
  intro xs
  induction xs with
  | nil =>
    intro ys l h hr
    simp only [rvsOf, Option.some.injEq] at h
    subst h
    cases hr
    exact ⟨[], rfl, rfl⟩
  | cons x xs ih =>
    intro ys l h hr
    simp only [rvsOf] at h
    split at h
    · rename_i y ys' h1 h2
      cases h
      have hr : Option.rec (motive := fun _ => Option (List SV)) none (fun v => oCons v (ress T H c ys')) (res1 y T H c) = some l := hr
      cases hy : res1 y T H c with
      | none => rw [hy] at hr; cases hr
      | some v =>
        rw [hy] at hr
        obtain ⟨l', e1, rfl⟩ := oCons_some (show oCons v (ress T H c ys') = some l from hr)
        obtain ⟨u, k1, k2⟩ := rv_ok E h1 hc16 hj hy
        obtain ⟨us, k3, k4⟩ := ih h2 e1
        exact ⟨u :: us, by simp [List.mapM_cons, k1, k3], u, us, rfl, k2, k4⟩
    · cases h

/-- What is known of the functions. -/
def FtOK (Γ : Cx) (D : Rg) (od : Nat → Option Od) (ds : Nat → Option Ds) (tt : Nat → TI) (ft : Nat → FB) : Prop :=
  ∀ f nt rs code, ft f = .fb nt rs code → ∃ fn, Γ.P.funcs[f]? = some fn ∧ fbOf D od ds tt fn = some (.fb nt rs code) ∧ (fn.name == "runtime.NumGoroutine") = false
/-- What is known of calls. -/
def MmOK (Γ : Cx) (mm : Nat → List SV → Option SV) : Prop :=
  ∀ f xs v, mm f xs = some v → (∃ fn code, Γ.P.funcs[f]? = some fn ∧ fn.body = some code ∧ (fn.name == "runtime.NumGoroutine") = false) ∧ ∀ (Z : Zm) (w : World) (vs : List Value), (∀ (b : Nat) (o : Obj), Γ.fx b = some o → w.heap[b]? = some o) → Cs Γ Z xs vs →
    Calls Γ.P f vs.toArray w fun e w' => ∃ u, e = .returned u ∧ (∀ Z', Zle Z Z' → C Γ Z' v u) ∧ w'.os = w.os ∧ w'.tape = w.tape ∧ w'.output = w.output ∧ w.heap.size ≤ w'.heap.size ∧ ∀ (b : Nat) (o : Obj), w.heap[b]? = some o → w'.heap[b]? = some o

theorem Hk.stay {w' : World} (h : Hk Γ Z H U w) (hw : ∀ (b : Nat) (o : Obj), w.heap[b]? = some o → w'.heap[b]? = some o) : Hk Γ Z H U w' :=
  ⟨h.dp, fun β hβ => (h.ok β hβ).keep (Zle.refl Z) fun o ho => hw _ o ho, h.sep, h.dlt⟩
theorem Fr.here {w' : World} (hos : w'.os = w.os) (ht : w'.tape = w.tape) (ho : w'.output = w.output) (hs : w.heap.size ≤ w'.heap.size) (hw : ∀ (b : Nat) (o : Obj), w.heap[b]? = some o → w'.heap[b]? = some o) : Fr ⟨Z, H, w⟩ Z H w' :=
  ⟨Zle.refl Z, fun β hβ hd => .inl ⟨β, hβ, hd, rfl⟩, fun b o hb _ => hw b o hb, hos, ht, ho, hs⟩

theorem evF_le {mm : Nat → List SV → Option SV} {ft : Nat → FB} (n : Nat) : CalLe (evF ds mm ft n) := by
  induction n with
  | zero => intro id xs H c v H' c' h; cases h
  | succ n ih =>
    intro id xs H c v H' c' h
    have h : Option.rec (motive := fun _ => CR) (FB.rec (motive := fun _ => CR) .no (fun nt rs code => runF ds (evF ds mm ft n) nt rs code xs H c) (ft id)) (fun v => .ok v H c) (mm id xs) = .ok v H' c' := h
    cases hmm : mm id xs with
    | some v' =>
      rw [hmm] at h
      have h : CR.ok v' H c = .ok v H' c' := h
      cases h
      exact ⟨Nat.le_refl _, fun h => h⟩
    | none =>
      rw [hmm] at h
      have h : FB.rec (motive := fun _ => CR) .no (fun nt rs code => runF ds (evF ds mm ft n) nt rs code xs H c) (ft id) = .ok v H' c' := h
      cases hf : ft id with
      | nb => rw [hf] at h; cases h
      | fb nt rs code =>
        rw [hf] at h
        have h : runF ds (evF ds mm ft n) nt rs code xs H c = .ok v H' c' := h
        unfold runF at h
        cases hle : Nat.ble (len xs) nt with
        | false => rw [hle] at h; cases h
        | true =>
          rw [hle, ifL_true] at h
          cases hT : argT ds xs 0 T0 with
          | none => rw [hT] at h; cases h
          | some T =>
            rw [hT] at h
            have h : Res.rec (motive := fun _ => CR) .no (fin rs) (fun _ _ _ _ => .no) (fin rs) (evC (rdf (evF ds mm ft n)) (evF ds mm ft n) code T H c) = .ok v H' c' := h
            have hl := evC_le ih code T H c
            have key : ∀ T1 H1 c1, fin rs T1 H1 c1 = .ok v H' c' → c1 = c' := by
              intro T1 H1 c1 hfin
              unfold fin at hfin
              cases hress : ress T1 H1 c1 rs with
              | none => rw [hress] at hfin; cases hfin
              | some l =>
                rw [hress] at hfin
                have hfin : CR.ok (tup1 l) H1 c1 = .ok v H' c' := hfin
                cases hfin; rfl
            cases hr : evC (rdf (evF ds mm ft n)) (evF ds mm ft n) code T H c with
            | no => rw [hr] at h; cases h
            | nrm T1 H1 c1 => rw [hr] at h hl; have := key T1 H1 c1 h; subst this; exact hl (by simp)
            | ex id T1 H1 c1 => rw [hr] at h; cases h
            | rt T1 H1 c1 => rw [hr] at h hl; have := key T1 H1 c1 h; subst this; exact hl (by simp)

theorem evF_ok (E : Env Γ.P od ds tt) (hD : D.has Γ.n Γ.m) {mm : Nat → List SV → Option SV} (hm : MmOK Γ mm) {ft : Nat → FB} (hft : FtOK Γ D od ds tt ft) (hrd : ∀ N n, CalOK Γ (evF ds mm ft n) → RdOK Γ D od ds tt N (evF ds mm ft n)) (n : Nat) : CalOK Γ (evF ds mm ft n) := by
  induction n with
  | zero => intro Z H U c w id xs vs v H' c' _ _ _ _ _ h; cases h
  | succ n ih =>
    intro Z H U c w id xs vs v H' c' hc hfs hk hfx hcs h
    have h : Option.rec (motive := fun _ => CR) (FB.rec (motive := fun _ => CR) .no (fun nt rs code => runF ds (evF ds mm ft n) nt rs code xs H c) (ft id)) (fun v => .ok v H c) (mm id xs) = .ok v H' c' := h
    cases hmm : mm id xs with
    | some v' =>
      rw [hmm] at h
      have h : CR.ok v' H c = .ok v H' c' := h
      cases h
      obtain ⟨h1, h2⟩ := hm id xs v hmm
      refine ⟨h1, Calls.mono (h2 Z w vs (fun b o hb => (hfx b o hb).1) hcs) fun e w' he => ?_⟩
      obtain ⟨u, rfl, k1, k2, k3, k4, k5, k6⟩ := he
      exact ⟨u, Z, U, rfl, k1 Z (Zle.refl Z), Up.refl U _, hk.stay k6, Fr.here k2 k3 k4 k5 k6⟩
    | none =>
      rw [hmm] at h
      have h : FB.rec (motive := fun _ => CR) .no (fun nt rs code => runF ds (evF ds mm ft n) nt rs code xs H c) (ft id) = .ok v H' c' := h
      cases hf : ft id with
      | nb => rw [hf] at h; cases h
      | fb nt rs code =>
        rw [hf] at h
        have h : runF ds (evF ds mm ft n) nt rs code xs H c = .ok v H' c' := h
        obtain ⟨fn, q1, q2, q3⟩ := hft id nt rs code hf
        unfold fbOf at q2
        split at q2
        · rename_i cd hb
          split at q2
          · rename_i s r hs hr
            cases q2
            refine ⟨⟨fn, cd, q1, hb, q3⟩, ?_⟩
            unfold runF at h
            cases hle : Nat.ble (len xs) fn.ntmps with
            | false => rw [hle] at h; cases h
            | true =>
              rw [hle, ifL_true] at h
              have hle := bleI hle
              rw [len_eq] at hle
              cases hT : argT ds xs 0 T0 with
              | none => rw [hT] at h; cases h
              | some T =>
                rw [hT] at h
                have h : Res.rec (motive := fun _ => CR) .no (fin rs) (fun _ _ _ _ => .no) (fin rs) (evC (rdf (evF ds mm ft n)) (evF ds mm ft n) code T H c) = .ok v H' c' := h
                have hvl := hcs.len
                have hj : J Γ ⟨Z, H, w⟩ fn.ntmps Z T H U { tmps := vs.toArray ++ Array.replicate (fn.ntmps - vs.toArray.size) undef, defers := [] } w := by
                  refine ⟨fun t ht => ?_, rfl, by simp; omega, hk, Fr.here rfl rfl rfl (Nat.le_refl _) fun _ _ h => h⟩
                  rw [argT_get E xs 0 T0 T hT t ht]
                  by_cases hlt : t < xs.length
                  · rw [if_pos (by omega), Nat.sub_zero]
                    obtain ⟨u, hu, hc⟩ := hcs.get (List.getElem?_eq_getElem hlt)
                    rw [List.getD_eq_getElem?_getD, List.getElem?_eq_getElem hlt, Option.getD_some]
                    rw [Array.getD_eq_getD_getElem?, Array.getElem?_append_left (by simp; omega)]
                    simp only [List.getElem?_toArray, hu, Option.getD_some]
                    exact hc
                  · rw [if_neg (by omega), getT_T0]
                    show _ = undef
                    rw [Array.getD_eq_getD_getElem?, Array.getElem?_append_right (by simp; omega), Array.getElem?_replicate]
                    split <;> rfl
                refine calls_of_wp q1 hb ?_
                have hne : evC (rdf (evF ds mm ft n)) (evF ds mm ft n) code T H c ≠ .no := by
                  intro e; rw [e] at h; cases h
                have htop : (evC (rdf (evF ds mm ft n)) (evF ds mm ft n) code T H c).top = c' := by
                  have key : ∀ T1 H1 c1, fin rs T1 H1 c1 = .ok v H' c' → c1 = c' := by
                    intro T1 H1 c1 hfin
                    unfold fin at hfin
                    cases hress : ress T1 H1 c1 rs with
                    | none => rw [hress] at hfin; cases hfin
                    | some l =>
                      rw [hress] at hfin
                      have hfin : CR.ok (tup1 l) H1 c1 = .ok v H' c' := hfin
                      cases hfin; rfl
                  generalize evC (rdf (evF ds mm ft n)) (evF ds mm ft n) code T H c = res at h
                  cases res with
                  | no => cases h
                  | nrm T1 H1 c1 => exact key T1 H1 c1 h
                  | ex id T1 H1 c1 => cases h
                  | rt T1 H1 c1 => exact key T1 H1 c1 h
                have hle' := evF_le (ds := ds) (mm := mm) (ft := ft) n
                have hl16 := (evC_le hle' code T H c hne).2 hc
                rw [htop] at hl16
                have hbody := body_ok E hD ih hle' (hrd fn.ntmps n ih) hfx cd code T H U c _ w Z hs hc (by rw [htop]; exact hfs) hj hne
                refine wp_mono hbody fun e a' w' hp => ?_
                have fin_ok : ∀ (T1 : TT) (H1 : Hp) (c1 : Nat), fin rs T1 H1 c1 = .ok v H' c' → (∃ Z1 U1, Up U c c1 U1 ∧ J Γ ⟨Z, H, w⟩ fn.ntmps Z1 T1 H1 U1 a' w') →
                    a'.defers = [] ∧ ∃ v1, (results fn a'.tmps).run Γ.P w' = .ok v1 w' ∧ ∃ u Z' U', Ending.returned v1 = .returned u ∧ C Γ Z' v u ∧ Up U c c' U' ∧ Hk Γ Z' H' U' w' ∧ Fr ⟨Z, H, w⟩ Z' H' w' := by
                  intro T1 H1 c1 hfin ⟨Z1, U1, hu1, hj1⟩
                  unfold fin at hfin
                  cases hress : ress T1 H1 c1 rs with
                  | none => rw [hress] at hfin; cases hfin
                  | some l =>
                    rw [hress] at hfin
                    have hfin : CR.ok (tup1 l) H1 c1 = .ok v H' c' := hfin
                    cases hfin
                    obtain ⟨us, k1, k2⟩ := rvs_ok E hl16 hj1 hr hress
                    have hres : results fn a'.tmps = (do
                        let vs ← fn.results.mapM (Lgo.resVar a'.tmps)
                        pure (if h : vs.size = 1 then vs[0] else .tuple vs)) := rfl
                    refine ⟨hj1.defers, if us.length = 1 then us.headD undef else .tuple us.toArray, ?_, _, Z1, U1, rfl, ?_, hu1, hj1.hk, hj1.fr⟩
                    · rw [hres, Array.mapM_eq_mapM_toList]
                      simp only [Sem.run_bind, Sem.run_map, k1, Result.andThen_ok]
                      cases us with
                      | nil => simp
                      | cons u us =>
                        cases us with
                        | nil => simp
                        | cons u2 us => simp
                    · have hl := k2.len
                      unfold tup1
                      split
                      · rename_i x
                        obtain ⟨u, rfl, hc⟩ := k2.one
                        exact hc
                      · rename_i hx
                        have : us.length ≠ 1 := by
                          intro e
                          rw [hl] at e
                          obtain ⟨x, rfl⟩ := List.length_eq_one_iff.1 e
                          exact hx x rfl
                        rw [if_neg this]
                        exact ⟨us, rfl, k2⟩
                clear htop
                generalize evC (rdf (evF ds mm ft n)) (evF ds mm ft n) code T H c = res at h hp
                cases res with
                | no => cases h
                | nrm T1 H1 c1 =>
                  obtain ⟨rfl, hz⟩ := hp
                  exact fin_ok T1 H1 c1 h hz
                | ex id T1 H1 c1 => cases h
                | rt T1 H1 c1 =>
                  obtain ⟨rfl, hz⟩ := hp
                  exact fin_ok T1 H1 c1 h hz
          · cases q2
        · cases q2
end

end Go.Sy

namespace Go.Sy
open Go

/-- Two runs from heaps alike below ct: H to H', H2 to H2'. -/
structure LB (ct : Nat) (H H' H2 H2' : Hp) : Prop where
  d1 : H'.dp 7
  d2 : H2'.dp 7
  lo : ∀ β, β < ct → H2'.get β = H'.get β
  hi : ∀ β, ct ≤ β → β < 16384 → H'.get β = H.get β
  hi2 : ∀ β, ct ≤ β → β < 16384 → H2'.get β = H2.get β
def Ag (ct : Nat) (H H2 : Hp) : Prop := ∀ β, β < ct → H2.get β = H.get β

section
variable {H H' H'' H2 H2' H2'' : Hp} {ct ct' : Nat}
theorem LB.refl (h1 : H.dp 7) (h2 : H2.dp 7) (h : Ag ct H H2) : LB ct H H H2 H2 := ⟨h1, h2, h, fun _ _ _ => rfl, fun _ _ _ => rfl⟩
theorem LB.next (h : LB ct H H' H2 H2') (ha : Ag ct' H H2) (hc : ct' ≤ 16384) : Ag ct' H' H2' := by
  intro β hb
  by_cases hlt : β < ct
  · exact h.lo β hlt
  · rw [h.hi2 β (by omega) (by omega), h.hi β (by omega) (by omega)]; exact ha β hb
theorem LB.trans (h : LB ct H H' H2 H2') (h' : LB ct' H' H'' H2' H2'') (hle : ct ≤ ct') : LB ct' H H'' H2 H2'' :=
  ⟨h'.d1, h'.d2, h'.lo, fun β h1 h2 => by rw [h'.hi β h1 h2, h.hi β (by omega) h2], fun β h1 h2 => by rw [h'.hi2 β h1 h2, h.hi2 β (by omega) h2]⟩
theorem Ag.put (ha : Ag ct H H2) (d1 : H.dp 7) (d2 : H2.dp 7) (hc : ct ≤ 16384) {β : Nat} (hb : β < 16384) (e : HB) : Ag ct (H.put β e) (H2.put β e) := by
  intro γ hg
  rw [Hp.get_put d1 (by rw [pow7]; exact hb) (by rw [pow7]; omega), Hp.get_put d2 (by rw [pow7]; exact hb) (by rw [pow7]; omega)]
  split
  · rfl
  · exact ha γ hg
theorem put_hi (d1 : H.dp 7) {β : Nat} (hb : β < ct) (hc : ct ≤ 16384) (e : HB) : ∀ γ, ct ≤ γ → γ < 16384 → (H.put β e).get γ = H.get γ := by
  intro γ h1 h2
  rw [Hp.get_put d1 (by rw [pow7]; omega) (by rw [pow7]; omega), if_neg (by omega)]
theorem LB.put (d1 : H.dp 7) (d2 : H2.dp 7) (ha : Ag ct H H2) (hc : ct ≤ 16384) {β : Nat} (hb : β < ct) (e : HB) : LB ct H (H.put β e) H2 (H2.put β e) :=
  ⟨Hp.dp_put d1 _ _, Hp.dp_put d2 _ _, ha.put d1 d2 hc (by omega) e, put_hi d1 hb hc e, put_hi d2 hb hc e⟩

theorem run1_lb (a : A) : ∀ {T : TT} {H H2 : Hp} {c : Nat} {r : R3}, run1 a T H c = some r → c ≤ 16384 → H.dp 7 → H2.dp 7 → Ag r.2.2 H H2 →
    (∃ H2', run1 a T H2 c = some (r.1, H2', r.2.2) ∧ LB r.2.2 H r.2.1 H2 H2') ∧ ∀ rl wl, ftA a T H2 c rl wl = ftA a T H c rl wl := by
  induction a with
  | fail => intro T H H2 c r h; cases h
  | fin => intro T H H2 c r h hc d1 d2 ha; cases h; exact ⟨⟨H2, rfl, LB.refl d1 d2 ha⟩, fun _ _ => rfl⟩
  | gt n g f ih => intro T H H2 c r h hc d1 d2 ha; exact ih _ h hc d1 d2 ha
  | gh β f ih =>
    intro T H H2 c r h hc d1 d2 ha
    obtain ⟨hb, h1⟩ := r_gh h
    have hle := (run1_le _ h1).1
    have e : H2.get β = H.get β := ha β (by omega)
    obtain ⟨⟨H2', g1, g2⟩, g3⟩ := ih _ h1 hc d1 d2 ha
    refine ⟨⟨H2', ?_, g2⟩, fun rl wl => ?_⟩
    · simp only [run1, if_pos hb, e]; exact g1
    · show ftA (f (H2.get β)) T H2 c (β :: rl) wl = ftA (f (H.get β)) T H c (β :: rl) wl
      rw [e]; exact g3 _ _
  | pt n s v f ih => intro T H H2 c r h hc d1 d2 ha; exact ih h hc d1 d2 ha
  | ph β b f ih =>
    intro T H H2 c r h hc d1 d2 ha
    obtain ⟨hb, h1⟩ := r_ph h
    obtain ⟨hle, hl16⟩ := run1_le _ h1
    have hp := LB.put d1 d2 ha (hl16 hc) (show β < r.2.2 by omega) b
    obtain ⟨⟨H2', g1, g2⟩, g3⟩ := ih h1 hc hp.d1 hp.d2 hp.lo
    refine ⟨⟨H2', ?_, hp.trans g2 (Nat.le_refl _)⟩, fun rl wl => g3 _ _⟩
    simp only [run1, if_pos hb]; exact g1
  | nw b f ih =>
    intro T H H2 c r h hc d1 d2 ha
    obtain ⟨hb, h1⟩ := r_nw h
    obtain ⟨hle, hl16⟩ := run1_le _ h1
    have hp := LB.put d1 d2 ha (hl16 hb) (show c < r.2.2 by omega) b
    obtain ⟨⟨H2', g1, g2⟩, g3⟩ := ih _ h1 hb hp.d1 hp.d2 hp.lo
    refine ⟨⟨H2', ?_, hp.trans g2 (Nat.le_refl _)⟩, fun rl wl => g3 _ _⟩
    simp only [run1, if_pos hb]; exact g1

/-- A call looks below its numbers alone. -/
def CalLB (cal : Call) : Prop := ∀ id xs H H2 c v H' c', cal id xs H c = .ok v H' c' → c ≤ 16384 → H.dp 7 → H2.dp 7 → Ag c' H H2 → ∃ H2', cal id xs H2 c = .ok v H2' c' ∧ LB c' H H' H2 H2'

theorem stg1_lb {cal : Call} (hcl : CalLB cal) (g : GO) {T : TT} {c : Nat} {r : R3} (h : stg1 cal g T H c = some r) (hc : c ≤ 16384) (d1 : H.dp 7) (d2 : H2.dp 7) (ha : Ag r.2.2 H H2) :
    (∃ H2', stg1 cal g T H2 c = some (r.1, H2', r.2.2) ∧ LB r.2.2 H r.2.1 H2 H2') ∧ fpG g T H2 c = fpG g T H c := by
  have hcal : ∀ d f xs, stc1 cal d f xs T H c = some r → ∃ H2', stc1 cal d f xs T H2 c = some (r.1, H2', r.2.2) ∧ LB r.2.2 H r.2.1 H2 H2' := by
    intro d f xs h
    unfold stc1 at h ⊢
    split at h
    · split at h
      · rename_i v H1 c1 h1
        cases h
        obtain ⟨H2', g1, g2⟩ := hcl _ _ _ _ _ _ _ _ h1 hc d1 d2 ha
        refine ⟨H2', ?_, g2⟩
        simp only [g1]
      · cases h
    · cases h
  cases g with
  | o a =>
    obtain ⟨g1, g2⟩ := run1_lb a h hc d1 d2 ha
    refine ⟨g1, ?_⟩
    show (match ftA a T H2 c [] [] with | (r, w) => (r, w, false)) = (match ftA a T H c [] [] with | (r, w) => (r, w, false))
    rw [g2]
  | c g d f xs =>
    refine ⟨?_, rfl⟩
    cases g with
    | none => exact hcal _ _ _ h
    | some p =>
      simp only [stg1] at h ⊢
      split at h
      · split at h
        · rename_i hv
          rw [if_pos hv]; exact hcal _ _ _ h
        · rename_i hv
          rw [if_neg hv]
          cases h; exact ⟨H2, rfl, LB.refl d1 d2 ha⟩
      · cases h; exact ⟨H2, rfl, LB.refl d1 d2 ha⟩
      · cases h

/-- What a result's heap is, and the result with another. -/
def Res.hp : Res → Hp
  | .no => .lf .dead
  | .nrm _ H _ => H
  | .ex _ _ H _ => H
  | .rt _ H _ => H
def Res.withH (H : Hp) : Res → Res
  | .no => .no
  | .nrm T _ c => .nrm T H c
  | .ex id T _ c => .ex id T H c
  | .rt T _ c => .rt T H c
/-- A step looks below its numbers alone. -/
def KLB (f : K) : Prop := ∀ T H H2 c, f T H c ≠ .no → c ≤ 16384 → (f T H c).top ≤ 16384 → H.dp 7 → H2.dp 7 → Ag (f T H c).top H H2 → ∃ H2', f T H2 c = (f T H c).withH H2' ∧ LB (f T H c).top H (f T H c).hp H2 H2'

theorem rgN_lb {cal : Call} (hle : CalLe cal) (hcl : CalLB cal) (l : List GO) : KLB (rgN cal l) := by
  induction l with
  | nil => intro T H H2 c _ _ _ d1 d2 ha; exact ⟨H2, rfl, LB.refl d1 d2 ha⟩
  | cons g l ih =>
    intro T H H2 c hne hc htop d1 d2 ha
    rw [rgN_cons] at hne htop ha
    rw [rgN_cons, rgN_cons]
    cases hs : stg1 cal g T H c with
    | none => rw [hs] at hne; exact absurd rfl hne
    | some r =>
      rw [hs] at hne htop ha
      simp only at hne htop ha ⊢
      obtain ⟨l1, l2⟩ := stg1_le hle g hs
      have l3 := rgN_le hle l _ _ _ hne
      obtain ⟨⟨H2', g1, g2⟩, _⟩ := stg1_lb hcl g hs hc d1 d2 (fun β hb => ha β (by omega))
      rw [g1]
      simp only
      obtain ⟨H3, g3, g4⟩ := ih r.1 r.2.1 H2' r.2.2 hne (l2 hc) htop g2.d1 g2.d2 (g2.next ha htop)
      exact ⟨H3, g3, g2.trans g4 l3.1⟩

/-- Records that say the same. -/
structure RS (j j2 : Rec) : Prop where
  ix : j2.ix = j.ix
  rd : j2.rd = j.rd
  wr : j2.wr = j.wr
  cl : j2.cl = j.cl
  c0 : j2.c0 = j.c0
  c1 : j2.c1 = j.c1
  H0 : ∀ β, β < j.c0 → j2.H0.get β = j.H0.get β
  H1 : ∀ β, β < j.c0 → j2.H1.get β = j.H1.get β
theorem all_congr {α : Type} {f g : α → Bool} (h : ∀ x, f x = g x) (l : List α) : all f l = all g l := by
  induction l with
  | nil => rfl
  | cons x l ih => show ifL (f x) (all f l) false = ifL (g x) (all g l) false; rw [h, ih]
theorem apHeap_rs {j j2 i i2 : Rec} (h : RS j j2) (h' : RS i i2) : apHeap j2 i2 = apHeap j i := by
  unfold apHeap
  rw [h'.rd, h'.wr, h.c1, h.c0]
  rw [all_congr (f := fun β => ifL (Nat.blt β j.c0) (hbEq (j2.H0.get β) (j2.H1.get β)) (Nat.ble j.c1 β)) (g := fun β => ifL (Nat.blt β j.c0) (hbEq (j.H0.get β) (j.H1.get β)) (Nat.ble j.c1 β))]
  intro β
  cases hb : Nat.blt β j.c0 with
  | true => rw [h.H0 β (bltI hb), h.H1 β (bltI hb)]
  | false => rfl
theorem apart_rs {j j2 i i2 : Rec} (h : RS j j2) (h' : RS i i2) : apart j2 i2 = apart j i := by
  unfold apart
  rw [apHeap_rs h h', apHeap_rs h' h, h.cl, h'.cl, h.wr, h.rd, h'.wr, h'.rd]
inductive RSs : List Rec → List Rec → Prop
  | nil : RSs [] []
  | cons {j j2 : Rec} {l l2 : List Rec} (h : RS j j2) (hl : RSs l l2) : RSs (j :: l) (j2 :: l2)
theorem okR_rs {an : Nat} {acc acc2 : List Rec} (h : RSs acc acc2) {i i2 : Rec} (h' : RS i i2) : okR an acc2 i2 = okR an acc i := by
  induction h with
  | nil => rfl
  | @cons j j2 l l2 hj hl ih =>
    show ifL (ifL (bit an j2.ix) true (apart j2 i2)) (okR an l2 i2) false = ifL (ifL (bit an j.ix) true (apart j i)) (okR an l i) false
    rw [hj.ix, apart_rs hj h', ih]
theorem pureR_rs {i i2 : Rec} (h : RS i i2) : pureR i2 = pureR i := by
  unfold pureR
  rw [h.cl, h.rd, h.wr]

theorem rdN_lb {cal : Call} (hle : CalLe cal) (hcl : CalLB cal) (l : List (GO × Nat)) : ∀ (k : Nat) (acc acc2 : List Rec) (T : TT) (H H2 : Hp) (c : Nat), RSs acc acc2 → rdN cal l k acc T H c ≠ .no → c ≤ 16384 → (rdN cal l k acc T H c).top ≤ 16384 → H.dp 7 → H2.dp 7 → Ag (rdN cal l k acc T H c).top H H2 →
    ∃ H2', rdN cal l k acc2 T H2 c = (rdN cal l k acc T H c).withH H2' ∧ LB (rdN cal l k acc T H c).top H (rdN cal l k acc T H c).hp H2 H2' := by
  induction l with
  | nil => intro k acc acc2 T H H2 c _ _ _ _ d1 d2 ha; exact ⟨H2, rfl, LB.refl d1 d2 ha⟩
  | cons g l ih =>
    intro k acc acc2 T H H2 c hrs hne hc htop d1 d2 ha
    rw [rdN_cons] at hne htop ha
    rw [rdN_cons, rdN_cons]
    cases hs : stg1 cal g.1 T H c with
    | none => rw [hs] at hne; exact absurd rfl hne
    | some r =>
      rw [hs] at hne htop ha
      simp only at hne htop ha ⊢
      obtain ⟨l1, l2⟩ := stg1_le hle g.1 hs
      have step : ∀ accn : List Rec, rdN cal l (k + 1) accn r.1 r.2.1 r.2.2 ≠ .no → Ag (rdN cal l (k + 1) accn r.1 r.2.1 r.2.2).top H H2 →
          (∃ H2', stg1 cal g.1 T H2 c = some (r.1, H2', r.2.2) ∧ LB r.2.2 H r.2.1 H2 H2') ∧ fpG g.1 T H2 c = fpG g.1 T H c := by
        intro accn hn ha'
        have l3 := rdN_le hle l _ _ _ _ _ hn
        exact stg1_lb hcl g.1 hs hc d1 d2 (fun β hb => ha' β (by omega))
      have hrsn : ∀ H2' : Hp, LB r.2.2 H r.2.1 H2 H2' → Ag r.2.2 H H2 → RS (mkR k (fpG g.1 T H c) c r.2.2 H r.2.1) (mkR k (fpG g.1 T H c) c r.2.2 H2 H2') := fun H2' hl ha' =>
        ⟨rfl, rfl, rfl, rfl, rfl, rfl, fun β (hb : β < c) => ha' β (by omega), fun β (hb : β < c) => hl.lo β (by omega)⟩
      rcases ifK_ne hne with ⟨eb, e⟩ | ⟨eb, e⟩
      · rw [e] at hne htop ha ⊢
        have l3 := rdN_le hle l _ _ _ _ _ hne
        obtain ⟨⟨H2', g1, g2⟩, g3⟩ := step _ hne ha
        rw [g1]
        simp only [g3]
        rw [pureR_rs (hrsn H2' g2 (fun β hb => ha β (by omega))), eb]
        obtain ⟨H3, k1, k2⟩ := ih (k + 1) acc acc2 r.1 r.2.1 H2' r.2.2 hrs hne (l2 hc) htop g2.d1 g2.d2 (g2.next ha htop)
        exact ⟨H3, k1, g2.trans k2 l3.1⟩
      · rw [e] at hne htop ha ⊢
        rcases ifK_ne hne with ⟨eb', e'⟩ | ⟨eb', e'⟩
        · rw [e'] at hne htop ha ⊢
          have l3 := rdN_le hle l _ _ _ _ _ hne
          obtain ⟨⟨H2', g1, g2⟩, g3⟩ := step _ hne ha
          rw [g1]
          simp only [g3]
          have hrs1 := hrsn H2' g2 (fun β hb => ha β (by omega))
          rw [pureR_rs hrs1, eb, okR_rs hrs hrs1, eb']
          obtain ⟨H3, k1, k2⟩ := ih (k + 1) _ _ r.1 r.2.1 H2' r.2.2 (RSs.cons hrs1 hrs) hne (l2 hc) htop g2.d1 g2.d2 (g2.next ha htop)
          exact ⟨H3, k1, g2.trans k2 l3.1⟩
        · rw [e'] at hne; exact absurd rfl hne

theorem lpN_lb {f : K} (hf : ∀ T H c, f T H c ≠ .no → c ≤ (f T H c).top ∧ (c ≤ 16384 → (f T H c).top ≤ 16384)) (hl : KLB f) (n : Nat) : KLB (lpN f n) := by
  induction n with
  | zero => intro T H H2 c hne; exact absurd rfl hne
  | succ n ih =>
    intro T H H2 c hne hc htop d1 d2 ha
    have e : ∀ T H c, lpN f (n + 1) T H c = Res.rec (motive := fun _ => Res) .no (lpN f n) .ex .rt (f T H c) := fun _ _ _ => rfl
    rw [e] at hne htop ha
    rw [e, e]
    have h1 := hf T H c
    have h2 := hl T H H2 c
    cases hr : f T H c with
    | no => rw [hr] at hne; exact absurd rfl hne
    | nrm T1 H1 c1 =>
      rw [hr] at hne htop ha h1 h2
      obtain ⟨l1, l2⟩ := h1 (by simp)
      have l3 := lpN_le hf n T1 H1 c1 hne
      obtain ⟨H2', g1, g2⟩ := h2 (by simp) hc (l2 hc) d1 d2 (fun β hb => ha β (Nat.lt_of_lt_of_le hb l3.1))
      rw [g1]
      obtain ⟨H3, k1, k2⟩ := ih T1 H1 H2' c1 hne (l2 hc) htop g2.d1 g2.d2 (g2.next ha htop)
      exact ⟨H3, k1, g2.trans k2 l3.1⟩
    | ex id T1 H1 c1 =>
      rw [hr] at hne htop ha h2
      obtain ⟨H2', g1, g2⟩ := h2 hne hc htop d1 d2 ha
      rw [g1]; exact ⟨H2', rfl, g2⟩
    | rt T1 H1 c1 =>
      rw [hr] at hne htop ha h2
      obtain ⟨H2', g1, g2⟩ := h2 hne hc htop d1 d2 ha
      rw [g1]; exact ⟨H2', rfl, g2⟩

theorem evC_lb {cal : Call} (hle : CalLe cal) (hcl : CalLB cal) (sc : SC) : KLB (evC (rdf cal) cal sc) := by
  induction sc with
  | sk => intro T H H2 c _ _ _ d1 d2 ha; exact ⟨H2, rfl, LB.refl d1 d2 ha⟩
  | rg ops => exact rgN_lb hle hcl ops
  | rd ops => intro T H H2 c hne hc htop d1 d2 ha; exact rdN_lb hle hcl ops 0 [] [] T H H2 c .nil hne hc htop d1 d2 ha
  | sq x y ihx ihy =>
    intro T H H2 c hne hc htop d1 d2 ha
    have e : ∀ T H c, evC (rdf cal) cal (.sq x y) T H c = Res.rec (motive := fun _ => Res) .no (evC (rdf cal) cal y) .ex .rt (evC (rdf cal) cal x T H c) := fun _ _ _ => rfl
    rw [e] at hne htop ha
    rw [e, e]
    have h1 := evC_le hle x T H c
    have h2 := ihx T H H2 c
    cases hr : evC (rdf cal) cal x T H c with
    | no => rw [hr] at hne; exact absurd rfl hne
    | nrm T1 H1 c1 =>
      rw [hr] at hne htop ha h1 h2
      obtain ⟨l1, l2⟩ := h1 (by simp)
      have l3 := evC_le hle y T1 H1 c1 hne
      obtain ⟨H2', g1, g2⟩ := h2 (by simp) hc (l2 hc) d1 d2 (fun β hb => ha β (Nat.lt_of_lt_of_le hb l3.1))
      rw [g1]
      obtain ⟨H3, k1, k2⟩ := ihy T1 H1 H2' c1 hne (l2 hc) htop g2.d1 g2.d2 (g2.next ha htop)
      exact ⟨H3, k1, g2.trans k2 l3.1⟩
    | ex id T1 H1 c1 =>
      rw [hr] at hne htop ha h2
      obtain ⟨H2', g1, g2⟩ := h2 hne hc htop d1 d2 ha
      rw [g1]; exact ⟨H2', rfl, g2⟩
    | rt T1 H1 c1 =>
      rw [hr] at hne htop ha h2
      obtain ⟨H2', g1, g2⟩ := h2 hne hc htop d1 d2 ha
      rw [g1]; exact ⟨H2', rfl, g2⟩
  | cd o x y ihx ihy =>
    intro T H H2 c hne hc htop d1 d2 ha
    have e : ∀ T H c, evC (rdf cal) cal (.cd o x y) T H c = (eOd T o).rB (fun v => ifK v (evC (rdf cal) cal x T H c) (evC (rdf cal) cal y T H c)) .no := fun _ _ _ => rfl
    rw [e] at hne htop ha
    rw [e, e]
    generalize eOd T o = v at hne htop ha ⊢
    cases v with
    | b v =>
      cases v with
      | true => exact ihx T H H2 c hne hc htop d1 d2 ha
      | false => exact ihy T H H2 c hne hc htop d1 d2 ha
    | _ => exact absurd rfl hne
  | bl id x ih =>
    intro T H H2 c hne hc htop d1 d2 ha
    have e : ∀ T H c, evC (rdf cal) cal (.bl id x) T H c = Res.rec (motive := fun _ => Res) .no Res.nrm (fun id' T H c => ifK (Nat.beq id' id) (.nrm T H c) (.ex id' T H c)) .rt (evC (rdf cal) cal x T H c) := fun _ _ _ => rfl
    rw [e] at hne htop ha
    rw [e, e]
    have h2 := ih T H H2 c
    cases hr : evC (rdf cal) cal x T H c with
    | no => rw [hr] at hne; exact absurd rfl hne
    | nrm T1 H1 c1 =>
      rw [hr] at hne htop ha h2
      obtain ⟨H2', g1, g2⟩ := h2 hne hc htop d1 d2 ha
      rw [g1]; exact ⟨H2', rfl, g2⟩
    | ex id' T1 H1 c1 =>
      rw [hr] at hne htop ha h2
      have et : (ifK (Nat.beq id' id) (Res.nrm T1 H1 c1) (.ex id' T1 H1 c1)).top = c1 := by cases Nat.beq id' id <;> rfl
      have htop : c1 ≤ 16384 := by rw [← et]; exact htop
      have ha : Ag c1 H H2 := by rw [← et]; exact ha
      obtain ⟨H2', g1, g2⟩ := h2 (by simp) hc htop d1 d2 ha
      rw [g1]
      refine ⟨H2', ?_, ?_⟩
      · show ifK (Nat.beq id' id) (Res.nrm T1 H2' c1) (.ex id' T1 H2' c1) = (ifK (Nat.beq id' id) (Res.nrm T1 H1 c1) (.ex id' T1 H1 c1)).withH H2'
        cases Nat.beq id' id <;> rfl
      · show LB (ifK (Nat.beq id' id) (Res.nrm T1 H1 c1) (.ex id' T1 H1 c1)).top H (ifK (Nat.beq id' id) (Res.nrm T1 H1 c1) (.ex id' T1 H1 c1)).hp H2 H2'
        cases Nat.beq id' id <;> exact g2
    | rt T1 H1 c1 =>
      rw [hr] at hne htop ha h2
      obtain ⟨H2', g1, g2⟩ := h2 hne hc htop d1 d2 ha
      rw [g1]; exact ⟨H2', rfl, g2⟩
  | lp x ih => exact lpN_lb (evC_le hle x) ih 1000
  | ex id => intro T H H2 c _ _ _ d1 d2 ha; exact ⟨H2, rfl, LB.refl d1 d2 ha⟩
  | rt => intro T H H2 c _ _ _ d1 d2 ha; exact ⟨H2, rfl, LB.refl d1 d2 ha⟩

theorem ress_lb {T : TT} {c : Nat} (ha : Ag c H H2) (rs : List RV) : ress T H2 c rs = ress T H c rs := by
  have h1 : ∀ r, res1 r T H2 c = res1 r T H c := by
    intro r
    cases r with
    | tm x => rfl
    | cl x agg n =>
      have e : ∀ H, res1 (.cl x agg n) T H c = (eOd T x).oP (fun β off => ifL (Nat.blt β c) (HB.rec (motive := fun _ => Option SV) none
        (fun _ cs => Option.rec (motive := fun _ => Option SV) none (fun l => pack agg l) (rng cs off n)) (fun _ => none) (H.get β)) none) none := fun _ => rfl
      rw [e, e]
      generalize eOd T x = v
      cases v with
      | p β off =>
        show ifL (Nat.blt β c) _ none = ifL (Nat.blt β c) _ none
        cases hb : Nat.blt β c with
        | false => rfl
        | true => rw [ha β (bltI hb)]
      | _ => rfl
  induction rs with
  | nil => rfl
  | cons r rs ih =>
    show Option.rec (motive := fun _ => Option (List SV)) none (fun v => oCons v (ress T H2 c rs)) (res1 r T H2 c) = Option.rec (motive := fun _ => Option (List SV)) none (fun v => oCons v (ress T H c rs)) (res1 r T H c)
    rw [h1, ih]

theorem evF_lb {ps : Nat → Option Ds} {mm : Nat → List SV → Option SV} {ft : Nat → FB} (n : Nat) : CalLB (evF ps mm ft n) := by
  induction n with
  | zero => intro id xs H H2 c v H' c' h; cases h
  | succ n ih =>
    intro id xs H H2 c v H' c' h hc d1 d2 ha
    have e : ∀ H, evF ps mm ft (n + 1) id xs H c = Option.rec (motive := fun _ => CR) (FB.rec (motive := fun _ => CR) .no (fun nt rs code => runF ps (evF ps mm ft n) nt rs code xs H c) (ft id)) (fun v => .ok v H c) (mm id xs) := fun _ => rfl
    rw [e] at h ⊢
    cases hmm : mm id xs with
    | some v' =>
      rw [hmm] at h
      have h : CR.ok v' H c = .ok v H' c' := h
      cases h
      exact ⟨H2, rfl, LB.refl d1 d2 ha⟩
    | none =>
      rw [hmm] at h
      cases hf : ft id with
      | nb => rw [hf] at h; cases h
      | fb nt rs code =>
        rw [hf] at h
        have h : runF ps (evF ps mm ft n) nt rs code xs H c = .ok v H' c' := h
        show ∃ H2', runF ps (evF ps mm ft n) nt rs code xs H2 c = .ok v H2' c' ∧ LB c' H H' H2 H2'
        unfold runF at h ⊢
        cases hle : Nat.ble (len xs) nt with
        | false => rw [hle] at h; cases h
        | true =>
          rw [hle, ifL_true] at h
          rw [ifL_true]
          cases hT : argT ps xs 0 T0 with
          | none => rw [hT] at h; cases h
          | some T =>
            rw [hT] at h
            have h : Res.rec (motive := fun _ => CR) .no (fin rs) (fun _ _ _ _ => .no) (fin rs) (evC (rdf (evF ps mm ft n)) (evF ps mm ft n) code T H c) = .ok v H' c' := h
            show ∃ H2', Res.rec (motive := fun _ => CR) .no (fin rs) (fun _ _ _ _ => .no) (fin rs) (evC (rdf (evF ps mm ft n)) (evF ps mm ft n) code T H2 c) = .ok v H2' c' ∧ LB c' H H' H2 H2'
            have hl := evC_le (evF_le (ds := ps) (mm := mm) (ft := ft) n) code T H c
            have hb := evC_lb (evF_le n) ih code T H H2 c
            have key : ∀ T1 H1 c1, fin rs T1 H1 c1 = .ok v H' c' → H1 = H' ∧ c1 = c' ∧ ∀ H3, Ag c' H' H3 → fin rs T1 H3 c' = .ok v H3 c' := by
              intro T1 H1 c1 hfin
              unfold fin at hfin
              cases hress : ress T1 H1 c1 rs with
              | none => rw [hress] at hfin; cases hfin
              | some l =>
                rw [hress] at hfin
                have hfin : CR.ok (tup1 l) H1 c1 = .ok v H' c' := hfin
                cases hfin
                refine ⟨rfl, rfl, fun H3 ha3 => ?_⟩
                unfold fin
                rw [ress_lb ha3, hress]
            cases hr : evC (rdf (evF ps mm ft n)) (evF ps mm ft n) code T H c with
            | no => rw [hr] at h; cases h
            | nrm T1 H1 c1 =>
              rw [hr] at h hl hb
              obtain ⟨e1, e2, k⟩ := key T1 H1 c1 h
              subst e1 e2
              obtain ⟨H2', g1, g2⟩ := hb (by simp) hc ((hl (by simp)).2 hc) d1 d2 ha
              rw [g1]
              exact ⟨H2', k H2' g2.lo, g2⟩
            | ex id T1 H1 c1 => rw [hr] at h; cases h
            | rt T1 H1 c1 =>
              rw [hr] at h hl hb
              obtain ⟨e1, e2, k⟩ := key T1 H1 c1 h
              subst e1 e2
              obtain ⟨H2', g1, g2⟩ := hb (by simp) hc ((hl (by simp)).2 hc) d1 d2 ha
              rw [g1]
              exact ⟨H2', k H2' g2.lo, g2⟩
end

end Go.Sy

namespace Go.Sy
open Go

/-- It looks at temporaries of rd alone, and writes d alone, once, at its end. -/
def AE (rd : Nat → Prop) (d : Option Nat) : A → Prop
  | .fail => True
  | .fin => d = none
  | .gt n g k => (n < 256 ∧ rd n ∧ g = getT n) ∧ ∀ v, AE rd d (k v)
  | .gh _ k => ∀ h, AE rd d (k h)
  | .pt n s _ k => d = some n ∧ n < 256 ∧ s = putT n ∧ k = .fin
  | .ph _ _ k => AE rd d k
  | .nw _ k => ∀ β, AE rd d (k β)
def OdIn (rd : Nat → Prop) : Od → Prop
  | .t n g => n < 256 ∧ rd n ∧ g = getT n
  | .k _ => True
  | .f _ => True
def DsIn (d : Option Nat) (s : Ds) : Prop := d = some s.n ∧ s.n < 256 ∧ s.s = putT s.n

section
variable {rd : Nat → Prop} {d : Option Nat}
theorem ae_rdo {o : Od} {k : SV → A} (ho : OdIn rd o) (hk : ∀ v, AE rd d (k v)) : AE rd d (rdo o k) := by
  cases o with
  | t n g => exact ⟨ho, hk⟩
  | k v => exact hk v
  | f id => exact hk _
theorem ae_pd {s : Ds} (hs : DsIn d s) (v : SV) : AE rd d (pd s v) := ⟨hs.1, hs.2.1, hs.2.2, rfl⟩
theorem ae_oA {o : Option SV} {k : SV → A} (h : ∀ v, AE rd d (k v)) : AE rd d (oA o k) := by
  cases o with
  | none => trivial
  | some v => exact h v
theorem ae_oL {o : Option (List SV)} {k : List SV → A} (h : ∀ v, AE rd d (k v)) : AE rd d (oL o k) := by
  cases o with
  | none => trivial
  | some v => exact h v
theorem ae_oN {o : Option Nat} {k : Nat → A} (h : ∀ v, AE rd d (k v)) : AE rd d (oN o k) := by
  cases o with
  | none => trivial
  | some v => exact h v
theorem ae_oNs {o : Option (List Nat)} {k : List Nat → A} (h : ∀ v, AE rd d (k v)) : AE rd d (oNs o k) := by
  cases o with
  | none => trivial
  | some v => exact h v
theorem ae_oMf {o : Option (Option (Nat × SV))} {k : Option (Nat × SV) → A} (h : ∀ v, AE rd d (k v)) : AE rd d (oMf o k) := by
  cases o with
  | none => trivial
  | some v => exact h v
theorem ae_oMe {o : Option (Nat × SV)} {e : A} {k : Nat × SV → A} (he : AE rd d e) (h : ∀ v, AE rd d (k v)) : AE rd d (oMe o e k) := by
  cases o with
  | none => exact he
  | some v => exact h v
theorem ae_hbA {b : HB} {k : Nat → List SV → A} (h : ∀ es cs, AE rd d (k es cs)) : AE rd d (hbA b k) := by
  cases b with
  | dead => trivial
  | hb es cs => exact h es cs
  | mp es => trivial
theorem ae_mpA {b : HB} {k : List (SV × SV) → A} (h : ∀ es, AE rd d (k es)) : AE rd d (mpA b k) := by
  cases b with
  | dead => trivial
  | hb es cs => trivial
  | mp es => exact h es
theorem ae_gh {β : Nat} {k : HB → A} (h : ∀ b, AE rd d (k b)) : AE rd d (.gh β k) := h
theorem ae_ph {β : Nat} {b : HB} {k : A} (h : AE rd d k) : AE rd d (.ph β b k) := h
theorem ae_nw {b : HB} {k : Nat → A} (h : ∀ β, AE rd d (k β)) : AE rd d (.nw b k) := h
theorem ae_fail : AE rd d .fail := trivial
theorem ae_fin (h : d = none) : AE rd d .fin := h
theorem ae_if {b : Bool} {x y : A} (hx : AE rd d x) (hy : AE rd d y) : AE rd d (ifA b x y) := by
  cases b with
  | true => exact hx
  | false => exact hy
theorem ae_aB {v : SV} {k : Bool → A} {e : A} (h : ∀ b, AE rd d (k b)) (he : AE rd d e) : AE rd d (v.aB k e) := by
  cases v <;> first | exact h _ | exact he
theorem ae_aG {v : SV} {k : Bool → A} {e f : A} (h : ∀ b, AE rd d (k b)) (he : AE rd d e) (hf : AE rd d f) : AE rd d (v.aG k e f) := by
  cases v <;> first | exact h _ | exact he | exact hf
theorem ae_aP {v : SV} {k : Nat → Nat → A} {e : A} (h : ∀ β o, AE rd d (k β o)) (he : AE rd d e) : AE rd d (v.aP k e) := by
  cases v <;> first | exact h _ _ | exact he
theorem ae_aSl {v : SV} {k : Nat → Nat → Nat → A} {e : A} (h : ∀ β o n, AE rd d (k β o n)) (he : AE rd d e) : AE rd d (v.aSl k e) := by
  cases v <;> first | exact h _ _ _ | exact he
theorem ae_aS {v : SV} {k : List Nat → A} {e : A} (h : ∀ l, AE rd d (k l)) (he : AE rd d e) : AE rd d (v.aS k e) := by
  cases v <;> first | exact h _ | exact he
theorem ae_aA {v : SV} {k : List SV → A} {e : A} (h : ∀ l, AE rd d (k l)) (he : AE rd d e) : AE rd d (v.aA k e) := by
  cases v <;> first | exact h _ | exact he
theorem ae_aT {v : SV} {k : List SV → A} {e : A} (h : ∀ l, AE rd d (k l)) (he : AE rd d e) : AE rd d (v.aT k e) := by
  cases v <;> first | exact h _ | exact he
theorem ae_aI {v : SV} {k : Nat → Int → A} {e : A} (h : ∀ q i, AE rd d (k q i)) (he : AE rd d e) : AE rd d (v.aI k e) := by
  cases v <;> first | exact h _ _ | exact he
theorem ae_aM {v : SV} {k : Nat → A} {e : A} (h : ∀ β, AE rd d (k β)) (he : AE rd d e) : AE rd d (v.aM k e) := by
  cases v <;> first | exact h _ | exact he
theorem ae_aL {v : SV} {x : A} {k : Nat → Nat → Nat → A} {l : List Nat → A} {e : A} (hx : AE rd d x) (h : ∀ β o n, AE rd d (k β o n)) (hl : ∀ s, AE rd d (l s)) (he : AE rd d e) : AE rd d (v.aL x k l e) := by
  cases v <;> first | exact h _ _ _ | exact hl _ | exact hx | exact he
theorem ae_aU {v : SV} {x : A} {k : Nat → Nat → Nat → A} {e : A} (hx : AE rd d x) (h : ∀ β o n, AE rd d (k β o n)) (he : AE rd d e) : AE rd d (v.aU x k e) := by
  cases v <;> first | exact h _ _ _ | exact hx | exact he
theorem ae_nat1 {v : SV} {k : Nat → A} (h : ∀ n, AE rd d (k n)) : AE rd d (nat1 v k) := by
  refine ae_aI (fun q i => ?_) trivial
  cases i with
  | ofNat n => exact h n
  | negSucc n => trivial
theorem ae_rds {os : List Od} : ∀ {k : List SV → A}, (∀ o, o ∈ os → OdIn rd o) → (∀ vs, AE rd d (k vs)) → AE rd d (rds os k) := by
  induction os with
  | nil => intro k _ h; exact h []
  | cons o os ih =>
    intro k ho h
    exact ae_rdo (ho o List.mem_cons_self) fun v => ih (fun o' h' => ho o' (List.mem_cons_of_mem _ h')) fun vs => h (v :: vs)
theorem ae_prts {ps : List (Nat × Nat × Od)} : ∀ {cs : List SV} {k : List SV → A}, (∀ p, p ∈ ps → OdIn rd p.2.2) → (∀ vs, AE rd d (k vs)) → AE rd d (prts ps cs k) := by
  induction ps with
  | nil => intro cs k _ h; exact h cs
  | cons p ps ih =>
    intro cs k ho h
    exact ae_rdo (ho p List.mem_cons_self) fun v => ae_oL fun l => ae_if (ae_oL fun cs' => ih (fun o' h' => ho o' (List.mem_cons_of_mem _ h')) h) trivial
theorem ae_rdn {o : Option Od} {n : Nat} {k : Nat → A} (ho : ∀ x, o = some x → OdIn rd x) (h : ∀ n, AE rd d (k n)) : AE rd d (rdn o n k) := by
  cases o with
  | none => exact h n
  | some x => exact ae_rdo (ho x rfl) fun v => ae_nat1 h
theorem ae_slA {v : SV} {sz : Nat} {k : Nat → List SV → A} (h : ∀ n l, AE rd d (k n l)) : AE rd d (slA v sz k) :=
  ae_aL (h _ _) (fun _ _ _ => ae_gh fun _ => ae_hbA fun _ _ => ae_oL fun _ => h _ _) (fun _ => ae_if (h _ _) trivial) trivial
end

section
variable {rd : Nat → Prop} {dn : Option Nat} {d : Ds} {x y z : Od}
theorem ae_mvA (hd : DsIn dn d) (hx : OdIn rd x) : AE rd dn (mvA d x) := by unfold mvA; repeat' (first | assumption | exact trivial | intro _ | refine ae_pd ?_ _ | apply ae_rdo | apply ae_if | apply ae_oA | apply ae_oL | apply ae_oNs | apply ae_oN | apply ae_oMf | apply ae_oMe | apply ae_hbA | apply ae_mpA | apply ae_nat1 | apply ae_slA | apply ae_rds | apply ae_prts | apply ae_rdn | apply ae_aB | apply ae_aG | apply ae_aP | apply ae_aSl | apply ae_aS | apply ae_aT | apply ae_aI | apply ae_aM | apply ae_aL | apply ae_aU | apply ae_gh | apply ae_ph | apply ae_nw | apply ae_fin)
theorem ae_pkA (hd : DsIn dn d) (hx : OdIn rd x) (hy : OdIn rd y) (hz : OdIn rd z) : AE rd dn (pkA d x y z) := by unfold pkA; repeat' (first | assumption | exact trivial | intro _ | refine ae_pd ?_ _ | apply ae_rdo | apply ae_if | apply ae_oA | apply ae_oL | apply ae_oNs | apply ae_oN | apply ae_oMf | apply ae_oMe | apply ae_hbA | apply ae_mpA | apply ae_nat1 | apply ae_slA | apply ae_rds | apply ae_prts | apply ae_rdn | apply ae_aB | apply ae_aG | apply ae_aP | apply ae_aSl | apply ae_aS | apply ae_aT | apply ae_aI | apply ae_aM | apply ae_aL | apply ae_aU | apply ae_gh | apply ae_ph | apply ae_nw | apply ae_fin)
theorem ae_alA (hd : DsIn dn d) (l : List SV) : AE rd dn (alA d l) := by unfold alA; repeat' (first | assumption | exact trivial | intro _ | refine ae_pd ?_ _ | apply ae_rdo | apply ae_if | apply ae_oA | apply ae_oL | apply ae_oNs | apply ae_oN | apply ae_oMf | apply ae_oMe | apply ae_hbA | apply ae_mpA | apply ae_nat1 | apply ae_slA | apply ae_rds | apply ae_prts | apply ae_rdn | apply ae_aB | apply ae_aG | apply ae_aP | apply ae_aSl | apply ae_aS | apply ae_aT | apply ae_aI | apply ae_aM | apply ae_aL | apply ae_aU | apply ae_gh | apply ae_ph | apply ae_nw | apply ae_fin)
theorem ae_bxA (hd : DsIn dn d) (hx : OdIn rd x) : AE rd dn (bxA d x) := by unfold bxA; repeat' (first | assumption | exact trivial | intro _ | refine ae_pd ?_ _ | apply ae_rdo | apply ae_if | apply ae_oA | apply ae_oL | apply ae_oNs | apply ae_oN | apply ae_oMf | apply ae_oMe | apply ae_hbA | apply ae_mpA | apply ae_nat1 | apply ae_slA | apply ae_rds | apply ae_prts | apply ae_rdn | apply ae_aB | apply ae_aG | apply ae_aP | apply ae_aSl | apply ae_aS | apply ae_aT | apply ae_aI | apply ae_aM | apply ae_aL | apply ae_aU | apply ae_gh | apply ae_ph | apply ae_nw | apply ae_fin)
theorem ae_ldA (hd : DsIn dn d) (hx : OdIn rd x) {a n} : AE rd dn (ldA d a n x) := by unfold ldA; repeat' (first | assumption | exact trivial | intro _ | refine ae_pd ?_ _ | apply ae_rdo | apply ae_if | apply ae_oA | apply ae_oL | apply ae_oNs | apply ae_oN | apply ae_oMf | apply ae_oMe | apply ae_hbA | apply ae_mpA | apply ae_nat1 | apply ae_slA | apply ae_rds | apply ae_prts | apply ae_rdn | apply ae_aB | apply ae_aG | apply ae_aP | apply ae_aSl | apply ae_aS | apply ae_aT | apply ae_aI | apply ae_aM | apply ae_aL | apply ae_aU | apply ae_gh | apply ae_ph | apply ae_nw | apply ae_fin)
theorem ae_stA (hd : dn = none) (hx : OdIn rd x) (hy : OdIn rd y) {n} : AE rd dn (stA n x y) := by unfold stA; repeat' (first | assumption | exact trivial | intro _ | refine ae_pd ?_ _ | apply ae_rdo | apply ae_if | apply ae_oA | apply ae_oL | apply ae_oNs | apply ae_oN | apply ae_oMf | apply ae_oMe | apply ae_hbA | apply ae_mpA | apply ae_nat1 | apply ae_slA | apply ae_rds | apply ae_prts | apply ae_rdn | apply ae_aB | apply ae_aG | apply ae_aP | apply ae_aSl | apply ae_aS | apply ae_aT | apply ae_aI | apply ae_aM | apply ae_aL | apply ae_aU | apply ae_gh | apply ae_ph | apply ae_nw | apply ae_fin)
theorem ae_faA (hd : DsIn dn d) (hx : OdIn rd x) {n} : AE rd dn (faA d n x) := by unfold faA; repeat' (first | assumption | exact trivial | intro _ | refine ae_pd ?_ _ | apply ae_rdo | apply ae_if | apply ae_oA | apply ae_oL | apply ae_oNs | apply ae_oN | apply ae_oMf | apply ae_oMe | apply ae_hbA | apply ae_mpA | apply ae_nat1 | apply ae_slA | apply ae_rds | apply ae_prts | apply ae_rdn | apply ae_aB | apply ae_aG | apply ae_aP | apply ae_aSl | apply ae_aS | apply ae_aT | apply ae_aI | apply ae_aM | apply ae_aL | apply ae_aU | apply ae_gh | apply ae_ph | apply ae_nw | apply ae_fin)
theorem ae_iaA (hd : DsIn dn d) (hx : OdIn rd x) (hy : OdIn rd y) {n} : AE rd dn (iaA d n x y) := by unfold iaA; repeat' (first | assumption | exact trivial | intro _ | refine ae_pd ?_ _ | apply ae_rdo | apply ae_if | apply ae_oA | apply ae_oL | apply ae_oNs | apply ae_oN | apply ae_oMf | apply ae_oMe | apply ae_hbA | apply ae_mpA | apply ae_nat1 | apply ae_slA | apply ae_rds | apply ae_prts | apply ae_rdn | apply ae_aB | apply ae_aG | apply ae_aP | apply ae_aSl | apply ae_aS | apply ae_aT | apply ae_aI | apply ae_aM | apply ae_aL | apply ae_aU | apply ae_gh | apply ae_ph | apply ae_nw | apply ae_fin)
theorem ae_ixA (hd : DsIn dn d) (hx : OdIn rd x) (hy : OdIn rd y) : AE rd dn (ixA d x y) := by unfold ixA; repeat' (first | assumption | exact trivial | intro _ | refine ae_pd ?_ _ | apply ae_rdo | apply ae_if | apply ae_oA | apply ae_oL | apply ae_oNs | apply ae_oN | apply ae_oMf | apply ae_oMe | apply ae_hbA | apply ae_mpA | apply ae_nat1 | apply ae_slA | apply ae_rds | apply ae_prts | apply ae_rdn | apply ae_aB | apply ae_aG | apply ae_aP | apply ae_aSl | apply ae_aS | apply ae_aT | apply ae_aI | apply ae_aM | apply ae_aL | apply ae_aU | apply ae_gh | apply ae_ph | apply ae_nw | apply ae_fin)
theorem ae_xtA (hd : DsIn dn d) (hx : OdIn rd x) {n} : AE rd dn (xtA d x n) := by unfold xtA; repeat' (first | assumption | exact trivial | intro _ | refine ae_pd ?_ _ | apply ae_rdo | apply ae_if | apply ae_oA | apply ae_oL | apply ae_oNs | apply ae_oN | apply ae_oMf | apply ae_oMe | apply ae_hbA | apply ae_mpA | apply ae_nat1 | apply ae_slA | apply ae_rds | apply ae_prts | apply ae_rdn | apply ae_aB | apply ae_aG | apply ae_aP | apply ae_aSl | apply ae_aS | apply ae_aT | apply ae_aI | apply ae_aM | apply ae_aL | apply ae_aU | apply ae_gh | apply ae_ph | apply ae_nw | apply ae_fin)
theorem ae_biA (hd : DsIn dn d) (hx : OdIn rd x) (hy : OdIn rd y) {f} : AE rd dn (biA d f x y) := by unfold biA; repeat' (first | assumption | exact trivial | intro _ | refine ae_pd ?_ _ | apply ae_rdo | apply ae_if | apply ae_oA | apply ae_oL | apply ae_oNs | apply ae_oN | apply ae_oMf | apply ae_oMe | apply ae_hbA | apply ae_mpA | apply ae_nat1 | apply ae_slA | apply ae_rds | apply ae_prts | apply ae_rdn | apply ae_aB | apply ae_aG | apply ae_aP | apply ae_aSl | apply ae_aS | apply ae_aT | apply ae_aI | apply ae_aM | apply ae_aL | apply ae_aU | apply ae_gh | apply ae_ph | apply ae_nw | apply ae_fin)
theorem ae_noA (hd : DsIn dn d) (hx : OdIn rd x) : AE rd dn (noA d x) := by unfold noA; repeat' (first | assumption | exact trivial | intro _ | refine ae_pd ?_ _ | apply ae_rdo | apply ae_if | apply ae_oA | apply ae_oL | apply ae_oNs | apply ae_oN | apply ae_oMf | apply ae_oMe | apply ae_hbA | apply ae_mpA | apply ae_nat1 | apply ae_slA | apply ae_rds | apply ae_prts | apply ae_rdn | apply ae_aB | apply ae_aG | apply ae_aP | apply ae_aSl | apply ae_aS | apply ae_aT | apply ae_aI | apply ae_aM | apply ae_aL | apply ae_aU | apply ae_gh | apply ae_ph | apply ae_nw | apply ae_fin)
theorem ae_ngA (hd : DsIn dn d) (hx : OdIn rd x) : AE rd dn (ngA d x) := by unfold ngA; repeat' (first | assumption | exact trivial | intro _ | refine ae_pd ?_ _ | apply ae_rdo | apply ae_if | apply ae_oA | apply ae_oL | apply ae_oNs | apply ae_oN | apply ae_oMf | apply ae_oMe | apply ae_hbA | apply ae_mpA | apply ae_nat1 | apply ae_slA | apply ae_rds | apply ae_prts | apply ae_rdn | apply ae_aB | apply ae_aG | apply ae_aP | apply ae_aSl | apply ae_aS | apply ae_aT | apply ae_aI | apply ae_aM | apply ae_aL | apply ae_aU | apply ae_gh | apply ae_ph | apply ae_nw | apply ae_fin)
theorem ae_ciA (hd : DsIn dn d) (hx : OdIn rd x) {D k} : AE rd dn (ciA D d k x) := by unfold ciA; repeat' (first | assumption | exact trivial | intro _ | refine ae_pd ?_ _ | apply ae_rdo | apply ae_if | apply ae_oA | apply ae_oL | apply ae_oNs | apply ae_oN | apply ae_oMf | apply ae_oMe | apply ae_hbA | apply ae_mpA | apply ae_nat1 | apply ae_slA | apply ae_rds | apply ae_prts | apply ae_rdn | apply ae_aB | apply ae_aG | apply ae_aP | apply ae_aSl | apply ae_aS | apply ae_aT | apply ae_aI | apply ae_aM | apply ae_aL | apply ae_aU | apply ae_gh | apply ae_ph | apply ae_nw | apply ae_fin)
theorem ae_sbA (hd : DsIn dn d) (hx : OdIn rd x) : AE rd dn (sbA d x) := by unfold sbA; repeat' (first | assumption | exact trivial | intro _ | refine ae_pd ?_ _ | apply ae_rdo | apply ae_if | apply ae_oA | apply ae_oL | apply ae_oNs | apply ae_oN | apply ae_oMf | apply ae_oMe | apply ae_hbA | apply ae_mpA | apply ae_nat1 | apply ae_slA | apply ae_rds | apply ae_prts | apply ae_rdn | apply ae_aB | apply ae_aG | apply ae_aP | apply ae_aSl | apply ae_aS | apply ae_aT | apply ae_aI | apply ae_aM | apply ae_aL | apply ae_aU | apply ae_gh | apply ae_ph | apply ae_nw | apply ae_fin)
theorem ae_bsA (hd : DsIn dn d) (hx : OdIn rd x) : AE rd dn (bsA d x) := by unfold bsA; repeat' (first | assumption | exact trivial | intro _ | refine ae_pd ?_ _ | apply ae_rdo | apply ae_if | apply ae_oA | apply ae_oL | apply ae_oNs | apply ae_oN | apply ae_oMf | apply ae_oMe | apply ae_hbA | apply ae_mpA | apply ae_nat1 | apply ae_slA | apply ae_rds | apply ae_prts | apply ae_rdn | apply ae_aB | apply ae_aG | apply ae_aP | apply ae_aSl | apply ae_aS | apply ae_aT | apply ae_aI | apply ae_aM | apply ae_aL | apply ae_aU | apply ae_gh | apply ae_ph | apply ae_nw | apply ae_fin)
theorem ae_bdA (hd : DsIn dn d) {l : List SV} {ps} (hp : ∀ p, p ∈ ps → OdIn rd p.2.2) : AE rd dn (bdA d l ps) := by unfold bdA; repeat' (first | assumption | exact trivial | intro _ | refine ae_pd ?_ _ | apply ae_rdo | apply ae_if | apply ae_oA | apply ae_oL | apply ae_oNs | apply ae_oN | apply ae_oMf | apply ae_oMe | apply ae_hbA | apply ae_mpA | apply ae_nat1 | apply ae_slA | apply ae_rds | apply ae_prts | apply ae_rdn | apply ae_aB | apply ae_aG | apply ae_aP | apply ae_aSl | apply ae_aS | apply ae_aT | apply ae_aI | apply ae_aM | apply ae_aL | apply ae_aU | apply ae_gh | apply ae_ph | apply ae_nw | apply ae_fin)
theorem ae_blA (hd : DsIn dn d) {l : List SV} {es n ps} (hp : ∀ p, p ∈ ps → OdIn rd p.2.2) : AE rd dn (blA d es n l ps) := by unfold blA; repeat' (first | assumption | exact trivial | intro _ | refine ae_pd ?_ _ | apply ae_rdo | apply ae_if | apply ae_oA | apply ae_oL | apply ae_oNs | apply ae_oN | apply ae_oMf | apply ae_oMe | apply ae_hbA | apply ae_mpA | apply ae_nat1 | apply ae_slA | apply ae_rds | apply ae_prts | apply ae_rdn | apply ae_aB | apply ae_aG | apply ae_aP | apply ae_aSl | apply ae_aS | apply ae_aT | apply ae_aI | apply ae_aM | apply ae_aL | apply ae_aU | apply ae_gh | apply ae_ph | apply ae_nw | apply ae_fin)
theorem ae_suA (hd : DsIn dn d) (hx : OdIn rd x) {n} {lo hi : Option Od} (hl : ∀ x, lo = some x → OdIn rd x) (hh : ∀ x, hi = some x → OdIn rd x) : AE rd dn (suA d n x lo hi) := by unfold suA; repeat' (first | assumption | exact trivial | intro _ | refine ae_pd ?_ _ | apply ae_rdo | apply ae_if | apply ae_oA | apply ae_oL | apply ae_oNs | apply ae_oN | apply ae_oMf | apply ae_oMe | apply ae_hbA | apply ae_mpA | apply ae_nat1 | apply ae_slA | apply ae_rds | apply ae_prts | apply ae_rdn | apply ae_aB | apply ae_aG | apply ae_aP | apply ae_aSl | apply ae_aS | apply ae_aT | apply ae_aI | apply ae_aM | apply ae_aL | apply ae_aU | apply ae_gh | apply ae_ph | apply ae_nw | apply ae_fin)
theorem ae_ssA (hd : DsIn dn d) (hx : OdIn rd x) {lo hi : Option Od} (hl : ∀ x, lo = some x → OdIn rd x) (hh : ∀ x, hi = some x → OdIn rd x) : AE rd dn (ssA d x lo hi) := by unfold ssA; repeat' (first | assumption | exact trivial | intro _ | refine ae_pd ?_ _ | apply ae_rdo | apply ae_if | apply ae_oA | apply ae_oL | apply ae_oNs | apply ae_oN | apply ae_oMf | apply ae_oMe | apply ae_hbA | apply ae_mpA | apply ae_nat1 | apply ae_slA | apply ae_rds | apply ae_prts | apply ae_rdn | apply ae_aB | apply ae_aG | apply ae_aP | apply ae_aSl | apply ae_aS | apply ae_aT | apply ae_aI | apply ae_aM | apply ae_aL | apply ae_aU | apply ae_gh | apply ae_ph | apply ae_nw | apply ae_fin)
theorem ae_mfA (hd : DsIn dn d) {f} {os : List Od} (ho : ∀ o, o ∈ os → OdIn rd o) : AE rd dn (mfA d f os) := by unfold mfA; repeat' (first | assumption | exact trivial | intro _ | refine ae_pd ?_ _ | apply ae_rdo | apply ae_if | apply ae_oA | apply ae_oL | apply ae_oNs | apply ae_oN | apply ae_oMf | apply ae_oMe | apply ae_hbA | apply ae_mpA | apply ae_nat1 | apply ae_slA | apply ae_rds | apply ae_prts | apply ae_rdn | apply ae_aB | apply ae_aG | apply ae_aP | apply ae_aSl | apply ae_aS | apply ae_aT | apply ae_aI | apply ae_aM | apply ae_aL | apply ae_aU | apply ae_gh | apply ae_ph | apply ae_nw | apply ae_fin)
theorem ae_mmA (hd : DsIn dn d) : AE rd dn (mmA d) := by unfold mmA; repeat' (first | assumption | exact trivial | intro _ | refine ae_pd ?_ _ | apply ae_rdo | apply ae_if | apply ae_oA | apply ae_oL | apply ae_oNs | apply ae_oN | apply ae_oMf | apply ae_oMe | apply ae_hbA | apply ae_mpA | apply ae_nat1 | apply ae_slA | apply ae_rds | apply ae_prts | apply ae_rdn | apply ae_aB | apply ae_aG | apply ae_aP | apply ae_aSl | apply ae_aS | apply ae_aT | apply ae_aI | apply ae_aM | apply ae_aL | apply ae_aU | apply ae_gh | apply ae_ph | apply ae_nw | apply ae_fin)
theorem ae_lkA (hd : DsIn dn d) (hx : OdIn rd x) (hy : OdIn rd y) {D b v} : AE rd dn (lkA D d b v x y) := by unfold lkA; repeat' (first | assumption | exact trivial | intro _ | refine ae_pd ?_ _ | apply ae_rdo | apply ae_if | apply ae_oA | apply ae_oL | apply ae_oNs | apply ae_oN | apply ae_oMf | apply ae_oMe | apply ae_hbA | apply ae_mpA | apply ae_nat1 | apply ae_slA | apply ae_rds | apply ae_prts | apply ae_rdn | apply ae_aB | apply ae_aG | apply ae_aP | apply ae_aSl | apply ae_aS | apply ae_aT | apply ae_aI | apply ae_aM | apply ae_aL | apply ae_aU | apply ae_gh | apply ae_ph | apply ae_nw | apply ae_fin)
theorem ae_muA (hd : dn = none) (hx : OdIn rd x) (hy : OdIn rd y) (hz : OdIn rd z) {D} : AE rd dn (muA D x y z) := by unfold muA; repeat' (first | assumption | exact trivial | intro _ | refine ae_pd ?_ _ | apply ae_rdo | apply ae_if | apply ae_oA | apply ae_oL | apply ae_oNs | apply ae_oN | apply ae_oMf | apply ae_oMe | apply ae_hbA | apply ae_mpA | apply ae_nat1 | apply ae_slA | apply ae_rds | apply ae_prts | apply ae_rdn | apply ae_aB | apply ae_aG | apply ae_aP | apply ae_aSl | apply ae_aS | apply ae_aT | apply ae_aI | apply ae_aM | apply ae_aL | apply ae_aU | apply ae_gh | apply ae_ph | apply ae_nw | apply ae_fin)
theorem ae_lnA (hd : DsIn dn d) (hx : OdIn rd x) : AE rd dn (lnA d x) := by unfold lnA; repeat' (first | assumption | exact trivial | intro _ | refine ae_pd ?_ _ | apply ae_rdo | apply ae_if | apply ae_oA | apply ae_oL | apply ae_oNs | apply ae_oN | apply ae_oMf | apply ae_oMe | apply ae_hbA | apply ae_mpA | apply ae_nat1 | apply ae_slA | apply ae_rds | apply ae_prts | apply ae_rdn | apply ae_aB | apply ae_aG | apply ae_aP | apply ae_aSl | apply ae_aS | apply ae_aT | apply ae_aI | apply ae_aM | apply ae_aL | apply ae_aU | apply ae_gh | apply ae_ph | apply ae_nw | apply ae_fin)
theorem ae_lsA (hd : DsIn dn d) (hx : OdIn rd x) : AE rd dn (lsA d x) := by unfold lsA; repeat' (first | assumption | exact trivial | intro _ | refine ae_pd ?_ _ | apply ae_rdo | apply ae_if | apply ae_oA | apply ae_oL | apply ae_oNs | apply ae_oN | apply ae_oMf | apply ae_oMe | apply ae_hbA | apply ae_mpA | apply ae_nat1 | apply ae_slA | apply ae_rds | apply ae_prts | apply ae_rdn | apply ae_aB | apply ae_aG | apply ae_aP | apply ae_aSl | apply ae_aS | apply ae_aT | apply ae_aI | apply ae_aM | apply ae_aL | apply ae_aU | apply ae_gh | apply ae_ph | apply ae_nw | apply ae_fin)
theorem ae_apA (hd : DsIn dn d) (hx : OdIn rd x) (hy : OdIn rd y) {n} : AE rd dn (apA d n x y) := by unfold apA; repeat' (first | assumption | exact trivial | intro _ | refine ae_pd ?_ _ | apply ae_rdo | apply ae_if | apply ae_oA | apply ae_oL | apply ae_oNs | apply ae_oN | apply ae_oMf | apply ae_oMe | apply ae_hbA | apply ae_mpA | apply ae_nat1 | apply ae_slA | apply ae_rds | apply ae_prts | apply ae_rdn | apply ae_aB | apply ae_aG | apply ae_aP | apply ae_aSl | apply ae_aS | apply ae_aT | apply ae_aI | apply ae_aM | apply ae_aL | apply ae_aU | apply ae_gh | apply ae_ph | apply ae_nw | apply ae_fin)
theorem ae_mxA (hd : DsIn dn d) (hx : OdIn rd x) (hy : OdIn rd y) : AE rd dn (mxA d x y) := by unfold mxA; repeat' (first | assumption | exact trivial | intro _ | refine ae_pd ?_ _ | apply ae_rdo | apply ae_if | apply ae_oA | apply ae_oL | apply ae_oNs | apply ae_oN | apply ae_oMf | apply ae_oMe | apply ae_hbA | apply ae_mpA | apply ae_nat1 | apply ae_slA | apply ae_rds | apply ae_prts | apply ae_rdn | apply ae_aB | apply ae_aG | apply ae_aP | apply ae_aSl | apply ae_aS | apply ae_aT | apply ae_aI | apply ae_aM | apply ae_aL | apply ae_aU | apply ae_gh | apply ae_ph | apply ae_nw | apply ae_fin)
end

/- The compiler's operations. -/
section
variable {P : Program} {od : Nat → Option Od} {ds : Nat → Option Ds} {tt : Nat → TI} {D : Rg}
theorem oi (E : Env P od ds tt) {o : Operand} {x : Od} {l : List Operand} (h : odOf od o = some x) (hm : o ∈ l) : OdIn (fun t => Operand.tmp t ∈ l) x := by
  cases o with
  | tmp t =>
    obtain ⟨h1, rfl⟩ := E.od t x h
    exact ⟨h1, hm, rfl⟩
  | const v =>
    simp only [odOf] at h
    split at h
    · cases h; trivial
    · cases h
  | func f => cases h; trivial
  | global g => cases h
theorem di (E : Env P od ds tt) {d : Option Nat} {s : Ds} (h : dsOf ds d = some s) : DsIn d s := by
  cases d with
  | none => cases h
  | some t =>
    obtain ⟨h1, rfl⟩ := E.ds t s h
    exact ⟨rfl, h1, rfl⟩
theorem ois (E : Env P od ds tt) {l : List Operand} {os : List Operand} : ∀ {xs : List Od}, odsOf od os = some xs → (∀ o, o ∈ os → o ∈ l) → ∀ x, x ∈ xs → OdIn (fun t => Operand.tmp t ∈ l) x := by
  induction os with
  | nil => intro xs h _ x hx; cases h; simp at hx
  | cons o os ih =>
    intro xs h hm x hx
    simp only [odsOf] at h
    split at h
    · rename_i y ys h1 h2
      cases h
      rcases List.mem_cons.1 hx with rfl | hx
      · exact oi E h1 (hm o List.mem_cons_self)
      · exact ih h2 (fun o' h' => hm o' (List.mem_cons_of_mem _ h')) x hx
    · cases h
theorem ops_in (E : Env P od ds tt) {place : Nat → Option (Nat × Nat)} {l : List Operand} {ps : List (Nat × Operand)} : ∀ {r : List (Nat × Nat × Od)}, partsOf od place ps = some r → (∀ p, p ∈ ps → p.2 ∈ l) → ∀ q, q ∈ r → OdIn (fun t => Operand.tmp t ∈ l) q.2.2 := by
  induction ps with
  | nil => intro r h _ q hq; cases h; simp at hq
  | cons p ps ih =>
    intro r h hm q hq
    obtain ⟨i, x⟩ := p
    simp only [partsOf] at h
    split at h
    · rename_i off sz o r' h1 h2 h3
      cases h
      rcases List.mem_cons.1 hq with rfl | hq
      · exact oi E h2 (hm (i, x) List.mem_cons_self)
      · exact ih h3 (fun o' h' => hm o' (List.mem_cons_of_mem _ h')) q hq
    · cases h
theorem oo (E : Env P od ds tt) {l : List Operand} {lo : Option Operand} {x : Option Od} (h : optOd od lo = some x) (hm : ∀ o, lo = some o → o ∈ l) : ∀ y, x = some y → OdIn (fun t => Operand.tmp t ∈ l) y := by
  intro y hy
  cases lo with
  | none => cases h; cases hy
  | some o =>
    simp only [optOd] at h
    split at h
    · rename_i z hz
      cases h; cases hy
      exact oi E hz (hm o rfl)
    · cases h
def inOps (op : Op) (t : Nat) : Prop := Operand.tmp t ∈ op.operands.toList

theorem aOf_ae (E : Env P od ds tt) {d : Option Nat} {op : Op} {A0 : A} (h : aOf D od ds tt d op = some A0) : AE (inOps op) d A0 := by
  unfold aOf at h
  split at h
  · obtain ⟨dd, h1, h⟩ := bindI h
    obtain ⟨o1, h2, h⟩ := bindI h
    cases h
    exact ae_mvA (di E h1) (oi E h2 (by simp [Op.operands]))
  · obtain ⟨dd, h1, h⟩ := bindI h
    obtain ⟨o1, h2, h⟩ := bindI h
    cases h
    exact ae_mvA (di E h1) (oi E h2 (by simp [Op.operands]))
  · obtain ⟨dd, h1, h⟩ := bindI h
    obtain ⟨o1, h2, h⟩ := bindI h
    obtain ⟨o2, h3, h⟩ := bindI h
    obtain ⟨o3, h4, h⟩ := bindI h
    cases h
    exact ae_pkA (di E h1) (oi E h2 (by simp [Op.operands])) (oi E h3 (by simp [Op.operands])) (oi E h4 (by simp [Op.operands]))
  · obtain ⟨hok, h⟩ := guardI h
    obtain ⟨dd, h1, h⟩ := bindI h
    cases h
    exact ae_alA (di E h1) _
  · obtain ⟨dd, h1, h⟩ := bindI h
    obtain ⟨o1, h2, h⟩ := bindI h
    cases h
    exact ae_bxA (di E h1) (oi E h2 (by simp [Op.operands]))
  · obtain ⟨hok, h⟩ := guardI h
    obtain ⟨dd, h1, h⟩ := bindI h
    obtain ⟨o1, h2, h⟩ := bindI h
    cases h
    exact ae_ldA (di E h1) (oi E h2 (by simp [Op.operands]))
  · obtain ⟨hok, h⟩ := guardI h
    obtain ⟨o1, h2, h⟩ := bindI h
    obtain ⟨o2, h3, h⟩ := bindI h
    cases h
    rw [Bool.and_eq_true] at hok
    exact ae_stA (by cases d <;> simp_all) (oi E h2 (by simp [Op.operands])) (oi E h3 (by simp [Op.operands]))
  · obtain ⟨hok, h⟩ := guardI h
    obtain ⟨⟨off, ft⟩, h1, h⟩ := bindI h
    obtain ⟨hok2, h⟩ := guardI h
    obtain ⟨dd, h2, h⟩ := bindI h
    obtain ⟨o1, h3, h⟩ := bindI h
    cases h
    exact ae_faA (di E h2) (oi E h3 (by simp [Op.operands]))
  · obtain ⟨hok, h⟩ := guardI h
    split at h
    · rename_i hk
      obtain ⟨hok2, h⟩ := guardI h
      obtain ⟨dd, h2, h⟩ := bindI h
      obtain ⟨o1, h3, h⟩ := bindI h
      obtain ⟨o2, h4, h⟩ := bindI h
      cases h
      exact ae_iaA (di E h2) (oi E h3 (by simp [Op.operands])) (oi E h4 (by simp [Op.operands]))
    · cases h
  · obtain ⟨hok, h⟩ := guardI h
    split at h
    · rename_i hk
      obtain ⟨dd, h2, h⟩ := bindI h
      obtain ⟨o1, h3, h⟩ := bindI h
      obtain ⟨o2, h4, h⟩ := bindI h
      cases h
      exact ae_ixA (di E h2) (oi E h3 (by simp [Op.operands])) (oi E h4 (by simp [Op.operands]))
    · cases h
  · obtain ⟨dd, h2, h⟩ := bindI h
    obtain ⟨o1, h3, h⟩ := bindI h
    cases h
    exact ae_xtA (di E h2) (oi E h3 (by simp [Op.operands]))
  · obtain ⟨hok, h⟩ := guardI h
    split at h
    · obtain ⟨dd, h1, h⟩ := bindI h
      obtain ⟨f, h2, h⟩ := bindI h
      obtain ⟨o1, h3, h⟩ := bindI h
      obtain ⟨o2, h4, h⟩ := bindI h
      cases h
      exact ae_biA (di E h1) (oi E h3 (by simp [Op.operands])) (oi E h4 (by simp [Op.operands]))
    · obtain ⟨dd, h1, h⟩ := bindI h
      obtain ⟨f, h2, h⟩ := bindI h
      obtain ⟨o1, h3, h⟩ := bindI h
      obtain ⟨o2, h4, h⟩ := bindI h
      cases h
      exact ae_biA (di E h1) (oi E h3 (by simp [Op.operands])) (oi E h4 (by simp [Op.operands]))
    · obtain ⟨dd, h1, h⟩ := bindI h
      obtain ⟨f, h2, h⟩ := bindI h
      obtain ⟨o1, h3, h⟩ := bindI h
      obtain ⟨o2, h4, h⟩ := bindI h
      cases h
      exact ae_biA (di E h1) (oi E h3 (by simp [Op.operands])) (oi E h4 (by simp [Op.operands]))
    · cases h
  · obtain ⟨dd, h2, h⟩ := bindI h
    obtain ⟨o1, h3, h⟩ := bindI h
    cases h
    exact ae_noA (di E h2) (oi E h3 (by simp [Op.operands]))
  · obtain ⟨dd, h2, h⟩ := bindI h
    obtain ⟨o1, h3, h⟩ := bindI h
    cases h
    exact ae_ngA (di E h2) (oi E h3 (by simp [Op.operands]))
  · obtain ⟨hok, h⟩ := guardI h
    split at h
    · rename_i hk1 hk2
      obtain ⟨dd, h2, h⟩ := bindI h
      obtain ⟨o1, h3, h⟩ := bindI h
      cases h
      exact ae_ciA (di E h2) (oi E h3 (by simp [Op.operands]))
    · rename_i e hk1 hk2
      obtain ⟨hok2, h⟩ := guardI h
      obtain ⟨dd, h2, h⟩ := bindI h
      obtain ⟨o1, h3, h⟩ := bindI h
      cases h
      exact ae_sbA (di E h2) (oi E h3 (by simp [Op.operands]))
    · rename_i e hk1 hk2
      obtain ⟨hok2, h⟩ := guardI h
      obtain ⟨dd, h2, h⟩ := bindI h
      obtain ⟨o1, h3, h⟩ := bindI h
      cases h
      exact ae_bsA (di E h2) (oi E h3 (by simp [Op.operands]))
    · cases h
  · obtain ⟨hok, h⟩ := guardI h
    obtain ⟨qs, h1, h⟩ := bindI h
    obtain ⟨dd, h2, h⟩ := bindI h
    cases h
    exact ae_bdA (di E h2) (ops_in E h1 (fun p hp => by simp only [Op.operands, List.mem_map]; exact ⟨p, hp, rfl⟩))
  · obtain ⟨hok, h⟩ := guardI h
    split at h
    · rename_i e hk
      obtain ⟨hok2, h⟩ := guardI h
      obtain ⟨qs, h1, h⟩ := bindI h
      obtain ⟨dd, h2, h⟩ := bindI h
      cases h
      exact ae_blA (di E h2) (ops_in E h1 (fun p hp => by simp only [Op.operands, List.mem_map]; exact ⟨p, hp, rfl⟩))
    · cases h
  · obtain ⟨hok, h⟩ := guardI h
    split at h
    · rename_i e hk
      obtain ⟨hok2, h⟩ := guardI h
      obtain ⟨dd, h1, h⟩ := bindI h
      obtain ⟨o1, h2, h⟩ := bindI h
      obtain ⟨o2, h3, h⟩ := bindI h
      obtain ⟨o3, h4, h⟩ := bindI h
      cases h
      exact ae_suA (di E h1) (oi E h2 (by simp [Op.operands])) (oo E h3 (fun o e => by simp [Op.operands, e])) (oo E h4 (fun o e => by simp [Op.operands, e]))
    · rename_i hk
      obtain ⟨dd, h1, h⟩ := bindI h
      obtain ⟨o1, h2, h⟩ := bindI h
      obtain ⟨o2, h3, h⟩ := bindI h
      obtain ⟨o3, h4, h⟩ := bindI h
      cases h
      exact ae_ssA (di E h1) (oi E h2 (by simp [Op.operands])) (oo E h3 (fun o e => by simp [Op.operands, e])) (oo E h4 (fun o e => by simp [Op.operands, e]))
    · cases h
  · rename_i f first cs
    obtain ⟨hok, h⟩ := guardI h
    obtain ⟨dd, h1, h⟩ := bindI h
    obtain ⟨os, h2, h⟩ := bindI h
    cases h
    exact ae_mfA (di E h1) (ois E h2 (fun o ho => by simp only [Op.operands, Array.toList_append, List.mem_append]; exact .inr ho))
  · obtain ⟨dd, h1, h⟩ := bindI h
    cases h
    exact ae_mmA (di E h1)
  · obtain ⟨hok, h⟩ := guardI h
    split at h
    · rename_i k e hk
      obtain ⟨hok2, h⟩ := guardI h
      obtain ⟨dd, h1, h⟩ := bindI h
      obtain ⟨z, h2, h⟩ := bindI h
      obtain ⟨o1, h3, h⟩ := bindI h
      obtain ⟨o2, h4, h⟩ := bindI h
      cases h
      exact ae_lkA (di E h1) (oi E h3 (by simp [Op.operands])) (oi E h4 (by simp [Op.operands]))
    · cases h
  · obtain ⟨hok, h⟩ := guardI h
    simp only [Bool.and_eq_true] at hok
    split at h
    · rename_i k e hk
      obtain ⟨hok2, h⟩ := guardI h
      obtain ⟨o1, h3, h⟩ := bindI h
      obtain ⟨o2, h4, h⟩ := bindI h
      obtain ⟨o3, h5, h⟩ := bindI h
      cases h
      exact ae_muA (by have := hok.2; cases d <;> simp_all) (oi E h3 (by simp [Op.operands])) (oi E h4 (by simp [Op.operands])) (oi E h5 (by simp [Op.operands]))
    · cases h
  · split at h
    · rename_i hxs hts
      obtain ⟨hok, h⟩ := guardI h
      split at h
      · rename_i hk
        obtain ⟨dd, h1, h⟩ := bindI h
        obtain ⟨o1, h2, h⟩ := bindI h
        cases h
        exact ae_lsA (di E h1) (oi E h2 (by simp [Op.operands, Call.operands, hxs]))
      · rename_i e hk
        obtain ⟨dd, h1, h⟩ := bindI h
        obtain ⟨o1, h2, h⟩ := bindI h
        cases h
        exact ae_lnA (di E h1) (oi E h2 (by simp [Op.operands, Call.operands, hxs]))
      · cases h
    · cases h
  · split at h
    · rename_i hxs hts
      obtain ⟨hok, h⟩ := guardI h
      split at h
      · rename_i e e' hk1 hk2
        obtain ⟨hok2, h⟩ := guardI h
        obtain ⟨dd, h1, h⟩ := bindI h
        obtain ⟨o1, h2, h⟩ := bindI h
        obtain ⟨o2, h3, h⟩ := bindI h
        cases h
        exact ae_apA (di E h1) (oi E h2 (by simp [Op.operands, Call.operands, hxs])) (oi E h3 (by simp [Op.operands, Call.operands, hxs]))
      · rename_i e hk1 hk2
        obtain ⟨hok2, h⟩ := guardI h
        obtain ⟨dd, h1, h⟩ := bindI h
        obtain ⟨o1, h2, h⟩ := bindI h
        obtain ⟨o2, h3, h⟩ := bindI h
        cases h
        exact ae_apA (di E h1) (oi E h2 (by simp [Op.operands, Call.operands, hxs])) (oi E h3 (by simp [Op.operands, Call.operands, hxs]))
      · cases h
    · cases h
  · split at h
    · rename_i hxs
      obtain ⟨dd, h1, h⟩ := bindI h
      obtain ⟨o1, h2, h⟩ := bindI h
      obtain ⟨o2, h3, h⟩ := bindI h
      cases h
      exact ae_mxA (di E h1) (oi E h2 (by simp [Op.operands, Call.operands, hxs])) (oi E h3 (by simp [Op.operands, Call.operands, hxs]))
    · cases h
  · cases h
end

end Go.Sy

namespace Go.Sy
open Go

/-- Of the temporaries, d alone is written, and alike. -/
def TW (d : Option Nat) (T T' T2 T2' : TT) : Prop := (∀ t, t < 256 → d = some t → getT t T2' = getT t T') ∧ ∀ t, t < 256 → d ≠ some t → getT t T2' = getT t T2 ∧ getT t T' = getT t T
/-- Of the heap, W alone is written, and alike. -/
def HW (W : Nat → Prop) (H H' H2 H2' : Hp) : Prop := (∀ β, β < 16384 → W β → H2'.get β = H'.get β) ∧ ∀ β, β < 16384 → ¬ W β → H2'.get β = H2.get β ∧ H'.get β = H.get β
def AgT (rd : Nat → Prop) (T T2 : TT) : Prop := ∀ t, t < 256 → rd t → getT t T2 = getT t T
def AgH (R : Nat → Prop) (H H2 : Hp) : Prop := ∀ β, β < 16384 → R β → H2.get β = H.get β

section
variable {rd : Nat → Prop} {d : Option Nat}
theorem TW.keep (T T2 : TT) (hd : d = none) : TW d T T T2 T2 := ⟨fun t _ h => (by subst hd; cases h), fun t _ _ => ⟨rfl, rfl⟩⟩
theorem TW.put {n : Nat} (hn : n < 256) (hd : d = some n) (v : SV) (T T2 : TT) : TW d T (putT n v T) T2 (putT n v T2) := by
  subst hd
  refine ⟨fun t ht h => ?_, fun t ht h => ?_⟩
  · cases h
    rw [get_putT _ _ hn ht, get_putT _ _ hn ht, if_pos rfl, if_pos rfl]
  · have hne : t ≠ n := fun e => h (by rw [e])
    rw [get_putT _ _ hn ht, get_putT _ _ hn ht, if_neg hne, if_neg hne]
    exact ⟨rfl, rfl⟩

theorem ae_run (a : A) : AE rd d a → ∀ {T T2 : TT} {H : Hp} {c : Nat} {r : R3}, AgT rd T T2 → run1 a T H c = some r →
    ∃ T2', run1 a T2 H c = some (T2', r.2.1, r.2.2) ∧ TW d T r.1 T2 T2' ∧ ∀ rl wl, ftA a T2 H c rl wl = ftA a T H c rl wl := by
  induction a with
  | fail => intro _ T T2 H c r _ h; cases h
  | fin => intro hd T T2 H c r _ h; cases h; exact ⟨T2, rfl, TW.keep T T2 hd, fun _ _ => rfl⟩
  | gt n g f ih =>
    intro ha T T2 H c r hag h
    obtain ⟨⟨h1, h2, rfl⟩, h3⟩ := ha
    have e : getT n T2 = getT n T := hag n h1 h2
    obtain ⟨T2', g1, g2, g3⟩ := ih (getT n T) (h3 _) hag h
    refine ⟨T2', ?_, g2, fun rl wl => ?_⟩
    · show run1 (f (getT n T2)) T2 H c = _
      rw [e]; exact g1
    · show ftA (f (getT n T2)) T2 H c rl wl = ftA (f (getT n T)) T H c rl wl
      rw [e]; exact g3 rl wl
  | gh β f ih =>
    intro ha T T2 H c r hag h
    obtain ⟨hb, h1⟩ := r_gh h
    obtain ⟨T2', g1, g2, g3⟩ := ih (H.get β) (ha _) hag h1
    exact ⟨T2', by simp only [run1, if_pos hb]; exact g1, g2, fun rl wl => g3 _ _⟩
  | pt n s v f ih =>
    intro ha T T2 H c r hag h
    obtain ⟨h1, h2, rfl, rfl⟩ := ha
    have h : some (putT n v T, H, c) = some r := h
    cases h
    exact ⟨putT n v T2, rfl, TW.put h2 h1 v T T2, fun _ _ => rfl⟩
  | ph β b f ih =>
    intro ha T T2 H c r hag h
    obtain ⟨hb, h1⟩ := r_ph h
    obtain ⟨T2', g1, g2, g3⟩ := ih ha hag h1
    exact ⟨T2', by simp only [run1, if_pos hb]; exact g1, g2, fun rl wl => g3 _ _⟩
  | nw b f ih =>
    intro ha T T2 H c r hag h
    obtain ⟨hb, h1⟩ := r_nw h
    obtain ⟨T2', g1, g2, g3⟩ := ih c (ha _) hag h1
    exact ⟨T2', by simp only [run1, if_pos hb]; exact g1, g2, fun rl wl => g3 _ _⟩

noncomputable def RdA (γ : Nat) : A → TT → Hp → Nat → Prop
  | .fail, _, _, _ => False
  | .fin, _, _, _ => False
  | .gt _ g k, T, H, c => RdA γ (k (g T)) T H c
  | .gh β k, T, H, c => γ = β ∨ RdA γ (k (H.get β)) T H c
  | .pt _ s v k, T, H, c => RdA γ k (s v T) H c
  | .ph β h k, T, H, c => RdA γ k T (H.put β h) c
  | .nw h k, T, H, c => RdA γ (k c) T (H.put c h) (c + 1)
noncomputable def WrA (γ : Nat) : A → TT → Hp → Nat → Prop
  | .fail, _, _, _ => False
  | .fin, _, _, _ => False
  | .gt _ g k, T, H, c => WrA γ (k (g T)) T H c
  | .gh β k, T, H, c => WrA γ (k (H.get β)) T H c
  | .pt _ s v k, T, H, c => WrA γ k (s v T) H c
  | .ph β h k, T, H, c => γ = β ∨ WrA γ k T (H.put β h) c
  | .nw h k, T, H, c => γ = c ∨ WrA γ (k c) T (H.put c h) (c + 1)
theorem ft_mem (γ : Nat) (a : A) : ∀ (T : TT) (H : Hp) (c : Nat) (rl wl : List Nat), (γ ∈ (ftA a T H c rl wl).1 ↔ RdA γ a T H c ∨ γ ∈ rl) ∧ (γ ∈ (ftA a T H c rl wl).2 ↔ WrA γ a T H c ∨ γ ∈ wl) := by
  induction a with
  | fail => intro T H c rl wl; exact ⟨⟨.inr, fun h => h.elim False.elim id⟩, ⟨.inr, fun h => h.elim False.elim id⟩⟩
  | fin => intro T H c rl wl; exact ⟨⟨.inr, fun h => h.elim False.elim id⟩, ⟨.inr, fun h => h.elim False.elim id⟩⟩
  | gt n g f ih => intro T H c rl wl; exact ih (g T) T H c rl wl
  | gh β f ih =>
    intro T H c rl wl
    obtain ⟨h1, h2⟩ := ih (H.get β) T H c (β :: rl) wl
    refine ⟨h1.trans ?_, h2⟩
    show _ ↔ (γ = β ∨ RdA γ (f (H.get β)) T H c) ∨ γ ∈ rl
    rw [List.mem_cons]
    constructor
    · rintro (h | h | h)
      · exact .inl (.inr h)
      · exact .inl (.inl h)
      · exact .inr h
    · rintro ((h | h) | h)
      · exact .inr (.inl h)
      · exact .inl h
      · exact .inr (.inr h)
  | pt n s v f ih => intro T H c rl wl; exact ih (s v T) H c rl wl
  | ph β b f ih =>
    intro T H c rl wl
    obtain ⟨h1, h2⟩ := ih T (H.put β b) c rl (β :: wl)
    refine ⟨h1, h2.trans ?_⟩
    show _ ↔ (γ = β ∨ WrA γ f T (H.put β b) c) ∨ γ ∈ wl
    rw [List.mem_cons]
    constructor
    · rintro (h | h | h)
      · exact .inl (.inr h)
      · exact .inl (.inl h)
      · exact .inr h
    · rintro ((h | h) | h)
      · exact .inr (.inl h)
      · exact .inl h
      · exact .inr (.inr h)
  | nw b f ih =>
    intro T H c rl wl
    obtain ⟨h1, h2⟩ := ih c T (H.put c b) (c + 1) rl (c :: wl)
    refine ⟨h1, h2.trans ?_⟩
    show _ ↔ (γ = c ∨ WrA γ (f c) T (H.put c b) (c + 1)) ∨ γ ∈ wl
    rw [List.mem_cons]
    constructor
    · rintro (h | h | h)
      · exact .inl (.inr h)
      · exact .inl (.inl h)
      · exact .inr h
    · rintro ((h | h) | h)
      · exact .inr (.inl h)
      · exact .inl h
      · exact .inr (.inr h)

theorem get_put7 {H : Hp} (d : H.dp 7) {k j : Nat} (hk : k < 16384) (hj : j < 16384) (e : HB) : (H.put k e).get j = if j = k then e else H.get j :=
  Hp.get_put d (by rw [pow7]; exact hk) (by rw [pow7]; exact hj) e

/-- What a run at another heap, alike where it looks, does. -/
structure HL (a : A) (T : TT) (H : Hp) (c : Nat) (r : R3) : Prop where
  dp : r.2.1.dp 7
  new : ∀ β, c ≤ β → β < r.2.2 → WrA β a T H c
  lt : ∀ β, WrA β a T H c → β < r.2.2
  run : ∀ H2 : Hp, H2.dp 7 → AgH (fun β => RdA β a T H c) H H2 → ∃ H2', run1 a T H2 c = some (r.1, H2', r.2.2) ∧ H2'.dp 7 ∧ HW (fun β => WrA β a T H c) H r.2.1 H2 H2'
theorem run_fp (a : A) : ∀ {T : TT} {H : Hp} {c : Nat} {r : R3}, run1 a T H c = some r → c ≤ 16384 → H.dp 7 → HL a T H c r := by
  -- a write, and what is left
  have wr : ∀ (k : A) (T : TT) (H : Hp) (c c1 β : Nat) (b : HB) (r : R3), β < c1 → c ≤ c1 → (∀ γ, c ≤ γ → γ < c1 → γ = β) → c1 ≤ r.2.2 → β < 16384 → H.dp 7 → HL k T (H.put β b) c1 r → ∀ a' : A, (∀ γ, RdA γ a' T H c ↔ RdA γ k T (H.put β b) c1) → (∀ γ, WrA γ a' T H c ↔ γ = β ∨ WrA γ k T (H.put β b) c1) →
      (∀ H2 : Hp, run1 a' T H2 c = run1 k T (H2.put β b) c1) → HL a' T H c r := by
    intro k T H c c1 β b r hb hcc hnew hle h16 d1 hl a' e1 e2 e3
    refine ⟨hl.dp, fun γ h1 h2 => (e2 γ).2 ?_, fun γ h1 => ?_, fun H2 d2 ha => ?_⟩
    · by_cases h : γ < c1
      · exact .inl (hnew γ h1 h)
      · exact .inr (hl.new γ (by omega) h2)
    · rcases (e2 γ).1 h1 with rfl | h
      · omega
      · exact hl.lt γ h
    · obtain ⟨H2', g1, g2, g3, g4⟩ := hl.run (H2.put β b) (Hp.dp_put d2 _ _) (fun γ h1 h2 => by
        rw [get_put7 d2 h16 h1, get_put7 d1 h16 h1]
        split
        · rfl
        · exact ha γ h1 ((e1 γ).2 h2))
      refine ⟨H2', by rw [e3]; exact g1, g2, fun γ h1 h2 => ?_, fun γ h1 h2 => ?_⟩
      · by_cases hw : WrA γ k T (H.put β b) c1
        · exact g3 γ h1 hw
        · have hγ : γ = β := ((e2 γ).1 h2).resolve_right hw
          obtain ⟨q1, q2⟩ := g4 γ h1 hw
          rw [q1, q2, get_put7 d2 h16 h1, get_put7 d1 h16 h1, if_pos hγ, if_pos hγ]
      · have hw : ¬ WrA γ k T (H.put β b) c1 := fun h => h2 ((e2 γ).2 (.inr h))
        have hγ : γ ≠ β := fun h => h2 ((e2 γ).2 (.inl h))
        obtain ⟨q1, q2⟩ := g4 γ h1 hw
        rw [q1, q2, get_put7 d2 h16 h1, get_put7 d1 h16 h1, if_neg hγ, if_neg hγ]
        exact ⟨rfl, rfl⟩
  induction a with
  | fail => intro T H c r h; cases h
  | fin =>
    intro T H c r h hc d1
    cases h
    exact ⟨d1, fun β (h1 : c ≤ β) (h2 : β < c) => by omega, fun β h => h.elim, fun H2 d2 _ => ⟨H2, rfl, d2, fun β _ h => h.elim, fun β _ _ => ⟨rfl, rfl⟩⟩⟩
  | gt n g f ih =>
    intro T H c r h hc d1
    have hl := ih (g T) h hc d1
    exact ⟨hl.dp, hl.new, hl.lt, hl.run⟩
  | gh β f ih =>
    intro T H c r h hc d1
    obtain ⟨hb, h1⟩ := r_gh h
    have hl := ih (H.get β) h1 hc d1
    refine ⟨hl.dp, hl.new, hl.lt, fun H2 d2 ha => ?_⟩
    have e : H2.get β = H.get β := ha β (by omega) (.inl rfl)
    obtain ⟨H2', g1, g2, g3⟩ := hl.run H2 d2 (fun γ h1 h2 => ha γ h1 (.inr h2))
    exact ⟨H2', by simp only [run1, if_pos hb, e]; exact g1, g2, g3⟩
  | pt n s v f ih =>
    intro T H c r h hc d1
    have hl := ih (show run1 f (s v T) H c = some r from h) hc d1
    exact ⟨hl.dp, hl.new, hl.lt, hl.run⟩
  | ph β b f ih =>
    intro T H c r h hc d1
    obtain ⟨hb, h1⟩ := r_ph h
    have hle := (run1_le _ h1).1
    exact wr f T H c c β b r hb (Nat.le_refl _) (fun γ h1 h2 => by omega) hle (by omega) d1 (ih h1 hc (Hp.dp_put d1 _ _)) _ (fun _ => Iff.rfl) (fun _ => Iff.rfl) (fun H2 => by simp only [run1, if_pos hb])
  | nw b f ih =>
    intro T H c r h hc d1
    obtain ⟨hb, h1⟩ := r_nw h
    have hle := (run1_le _ h1).1
    exact wr (f c) T H c (c + 1) c b r (by omega) (by omega) (fun γ h1 h2 => by omega) hle (by omega) d1 (ih c h1 hb (Hp.dp_put d1 _ _)) _ (fun _ => Iff.rfl) (fun _ => Iff.rfl) (fun H2 => by simp only [run1, if_pos hb])
end

/- Operations of regions. -/
def DsO (d : Option Nat) (dd : Option Ds) : Prop := (d = none ∧ dd = none) ∨ ∃ s, dd = some s ∧ DsIn d s
def GAE (rd : Nat → Prop) (d : Option Nat) : GO → Prop
  | .o a => AE rd d a
  | .c gd dd f xs => (∀ p, gd = some p → OdIn rd p.1) ∧ DsO d dd ∧ OdIn rd f ∧ ∀ x, x ∈ xs → OdIn rd x
noncomputable def RH (g : GO) (T : TT) (H : Hp) (c : Nat) (r : R3) (β : Nat) : Prop :=
  match g with
  | .o a => RdA β a T H c ∨ (c ≤ β ∧ β < r.2.2)
  | .c _ _ _ _ => β < r.2.2
noncomputable def WH (g : GO) (T : TT) (H : Hp) (c : Nat) (r : R3) (β : Nat) : Prop :=
  match g with
  | .o a => WrA β a T H c
  | .c _ _ _ _ => (β < c ∧ r.2.1.get β ≠ H.get β) ∨ (c ≤ β ∧ β < r.2.2)

section
variable {rd : Nat → Prop} {d : Option Nat} {cal : Call}
theorem eOd_ag {o : Od} (h : OdIn rd o) {T T2 : TT} (ha : AgT rd T T2) : eOd T2 o = eOd T o := by
  cases o with
  | t n g => obtain ⟨h1, h2, rfl⟩ := h; exact ha n h1 h2
  | k v => rfl
  | f id => rfl
theorem eOds_ag {os : List Od} (h : ∀ o, o ∈ os → OdIn rd o) {T T2 : TT} (ha : AgT rd T T2) : eOds T2 os = eOds T os := by
  induction os with
  | nil => rfl
  | cons o os ih =>
    show eOd T2 o :: eOds T2 os = eOd T o :: eOds T os
    rw [eOd_ag (h o List.mem_cons_self) ha, ih fun o' h' => h o' (List.mem_cons_of_mem _ h')]
theorem TW.putD {dd : Option Ds} (h : DsO d dd) (v : SV) (T T2 : TT) : TW d T (putD dd v T) T2 (Go.Sy.putD dd v T2) := by
  rcases h with ⟨h1, rfl⟩ | ⟨s, rfl, h1, h2, h3⟩
  · exact TW.keep T T2 h1
  · show TW d T (s.s v T) T2 (s.s v T2)
    rw [h3]
    exact TW.put h2 h1 v T T2

/-- What a step at another state, alike where it looks, does. -/
structure GL (cal : Call) (rd : Nat → Prop) (d : Option Nat) (g : GO) (T : TT) (H : Hp) (c : Nat) (r : R3) : Prop where
  dp : r.2.1.dp 7
  new : ∀ β, c ≤ β → β < r.2.2 → WH g T H c r β
  run : ∀ (T2 : TT) (H2 : Hp), H2.dp 7 → AgT rd T T2 → AgH (RH g T H c r) H H2 → ∃ T2' H2', stg1 cal g T2 H2 c = some (T2', H2', r.2.2) ∧ H2'.dp 7 ∧ TW d T r.1 T2 T2' ∧ HW (WH g T H c r) H r.2.1 H2 H2'

theorem g_loc (hle : CalLe cal) (hcl : CalLB cal) {g : GO} (hg : GAE rd d g) {T : TT} {H : Hp} {c : Nat} {r : R3} (h : stg1 cal g T H c = some r) (hc : c ≤ 16384) (d1 : H.dp 7) : GL cal rd d g T H c r := by
  cases g with
  | o a =>
    have hl := run_fp a (show run1 a T H c = some r from h) hc d1
    refine ⟨hl.dp, hl.new, fun T2 H2 d2 ht hh => ?_⟩
    obtain ⟨T2', g1, g2, g3⟩ := ae_run a hg ht (show run1 a T H c = some r from h)
    have hl2 := run_fp a g1 hc d1
    have eR : ∀ β, RdA β a T2 H c ↔ RdA β a T H c := by
      intro β
      have k1 := (ft_mem β a T2 H c [] []).1
      have k2 := (ft_mem β a T H c [] []).1
      rw [g3, k2] at k1
      simpa using k1.symm
    have eW : ∀ β, WrA β a T2 H c ↔ WrA β a T H c := by
      intro β
      have k1 := (ft_mem β a T2 H c [] []).2
      have k2 := (ft_mem β a T H c [] []).2
      rw [g3, k2] at k1
      simpa using k1.symm
    obtain ⟨H2', k1, k2, k3, k4⟩ := hl2.run H2 d2 (fun β hb h1 => hh β hb (.inl ((eR β).1 h1)))
    exact ⟨T2', H2', k1, k2, g2, fun β hb hw => k3 β hb ((eW β).2 hw), fun β hb hw => k4 β hb (fun h => hw ((eW β).1 h))⟩
  | c gd dd f xs =>
    obtain ⟨hg1, hg2, hg3, hg4⟩ := hg
    have key : ∀ r', stc1 cal dd f xs T H c = some r' → GL cal rd d (.c none dd f xs) T H c r' ∧ ∀ (T2 : TT) (H2 : Hp), H2.dp 7 → AgT rd T T2 → AgH (RH (.c none dd f xs) T H c r') H H2 → ∃ T2' H2', stc1 cal dd f xs T2 H2 c = some (T2', H2', r'.2.2) ∧ H2'.dp 7 ∧ TW d T r'.1 T2 T2' ∧ HW (WH (.c none dd f xs) T H c r') H r'.2.1 H2 H2' := by
      intro r' h
      have hrun : r'.2.1.dp 7 ∧ ∀ (T2 : TT) (H2 : Hp), H2.dp 7 → AgT rd T T2 → AgH (RH (.c none dd f xs) T H c r') H H2 → ∃ T2' H2', stc1 cal dd f xs T2 H2 c = some (T2', H2', r'.2.2) ∧ H2'.dp 7 ∧ TW d T r'.1 T2 T2' ∧ HW (WH (.c none dd f xs) T H c r') H r'.2.1 H2 H2' := by
        unfold stc1 at h
        split at h
        · rename_i id cs hid
          split at h
          · rename_i v H1 c1 h1
            cases h
            obtain ⟨l1, l2⟩ := hle _ _ _ _ _ _ _ h1
            obtain ⟨H0', z1, z2⟩ := hcl _ _ _ _ _ _ _ _ h1 hc d1 d1 (fun _ _ => rfl)
            refine ⟨z2.d1, fun T2 H2 d2 ht hh => ?_⟩
            obtain ⟨H2', k1, k2⟩ := hcl _ _ _ _ _ _ _ _ h1 hc d1 d2 (fun β hb => hh β (Nat.lt_of_lt_of_le hb (l2 hc)) hb)
            refine ⟨putD dd v T2, H2', ?_, k2.d2, TW.putD hg2 v T T2, fun β hb hw => ?_, fun β hb hw => ?_⟩
            · unfold stc1
              rw [eOd_ag hg3 ht, hid, eOds_ag hg4 ht]
              simp only [k1]
            · refine k2.lo β ?_
              rcases hw with ⟨hw, _⟩ | ⟨_, hw⟩
              · omega
              · exact hw
            · by_cases hb1 : β < c1
              · have e1 := k2.lo β hb1
                have hbc : β < c := by
                  rcases Nat.lt_or_ge β c with h | h
                  · exact h
                  · exact absurd (.inr ⟨h, hb1⟩) hw
                have e2 : H1.get β = H.get β := Classical.byContradiction fun h => hw (.inl ⟨hbc, h⟩)
                have e3 : H2.get β = H.get β := hh β hb hb1
                exact ⟨by rw [e1]; exact e2.trans e3.symm, e2⟩
              · exact ⟨k2.hi2 β (by omega) hb, k2.hi β (by omega) hb⟩
          · cases h
        · cases h
      exact ⟨⟨hrun.1, fun β h1 h2 => .inr ⟨h1, h2⟩, hrun.2⟩, hrun.2⟩
    have skip : r = (putD dd .n T, H, c) → r.2.1.dp 7 ∧ ∀ (T2 : TT) (H2 : Hp), H2.dp 7 → ∃ T2' H2', some (putD dd .n T2, H2, c) = some (T2', H2', r.2.2) ∧ H2'.dp 7 ∧ TW d T r.1 T2 T2' ∧ HW (WH (.c none dd f xs) T H c r) H r.2.1 H2 H2' := by
      intro h
      subst h
      refine ⟨d1, fun T2 H2 d2 => ⟨_, _, rfl, d2, TW.putD hg2 _ T T2, fun β hb hw => ?_, fun β hb hw => ⟨rfl, rfl⟩⟩⟩
      rcases hw with ⟨_, hw⟩ | ⟨h1, h2⟩
      · exact absurd rfl hw
      · have h2 : β < c := h2
        omega
    cases gd with
    | none =>
      have h : stc1 cal dd f xs T H c = some r := h
      exact (key r h).1
    | some p =>
      have e1 : ∀ T2, AgT rd T T2 → eOd T2 p.1 = eOd T p.1 := fun T2 ht => eOd_ag (hg1 p rfl) ht
      simp only [stg1] at h
      split at h
      · rename_i v hv
        split at h
        · rename_i hvp
          obtain ⟨k1, k2⟩ := key r h
          refine ⟨k1.dp, fun β h1 h2 => .inr ⟨h1, h2⟩, fun T2 H2 d2 ht hh => ?_⟩
          simp only [stg1, e1 T2 ht, hv, if_pos hvp]
          exact k2 T2 H2 d2 ht hh
        · rename_i hvp
          cases h
          obtain ⟨k1, k2⟩ := skip rfl
          refine ⟨k1, fun β h1 h2 => .inr ⟨h1, h2⟩, fun T2 H2 d2 ht hh => ?_⟩
          simp only [stg1, e1 T2 ht, hv, if_neg hvp]
          exact k2 T2 H2 d2
      · rename_i hv
        cases h
        obtain ⟨k1, k2⟩ := skip rfl
        refine ⟨k1, fun β h1 h2 => .inr ⟨h1, h2⟩, fun T2 H2 d2 ht hh => ?_⟩
        simp only [stg1, e1 T2 ht, hv]
        exact k2 T2 H2 d2
      · cases h
end

end Go.Sy

namespace Go.Sy
open Go

theorem bit_test (m k : Nat) : bit m k = m.testBit k := by
  unfold bit Nat.testBit
  have e1 : Nat.land (Nat.shiftRight m k) 1 = (m >>> k) % 2 := by
    show (m >>> k) &&& 1 = _
    rw [Nat.and_one_is_mod]
  rw [e1, Nat.and_comm, Nat.and_one_is_mod]
  rcases Nat.mod_two_eq_zero_or_one (m >>> k) with h | h <;> rw [h] <;> rfl
theorem bit_or (a b k : Nat) : bit (Nat.lor a b) k = (bit a k || bit b k) := by
  simp only [bit_test]
  show (a ||| b).testBit k = _
  rw [Nat.testBit_or]
theorem bit_one (k : Nat) : bit (Nat.shiftLeft 1 k) k = true := by
  rw [bit_test]
  show (1 <<< k).testBit k = true
  rw [Nat.testBit_shiftLeft]; simp
theorem bit_one_iff (k j : Nat) : bit (Nat.shiftLeft 1 k) j = true ↔ j = k := by
  rw [bit_test]
  show (1 <<< k).testBit j = true ↔ _
  rw [Nat.testBit_shiftLeft]
  constructor
  · intro h
    rw [Bool.and_eq_true] at h
    obtain ⟨h1, h2⟩ := h
    have h1 : k ≤ j := by simpa using h1
    have := Nat.testBit_one_eq_true_iff_self_eq_zero.1 h2
    omega
  · rintro rfl; simp
theorem bit_zero (k : Nat) : bit 0 k = false := by rw [bit_test]; simp
theorem noMeet_iff {a b : Nat} (h : noMeet a b = true) (k : Nat) : bit a k = true → bit b k = true → False := by
  intro h1 h2
  have h := beqI h
  have : (a &&& b).testBit k = true := by rw [Nat.testBit_and]; rw [bit_test] at h1 h2; rw [h1, h2]; rfl
  have h : a &&& b = 0 := h
  rw [h] at this
  simp at this
theorem bitsOf_mem {os : List Operand} {t : Nat} (h : Operand.tmp t ∈ os) : bit (bitsOf os) t = true := by
  have key : ∀ (os : List Operand) (m : Nat), (bit m t = true ∨ Operand.tmp t ∈ os) → bit (os.foldl (fun m o => match o with | .tmp t => Nat.lor m (Nat.shiftLeft 1 t) | _ => m) m) t = true := by
    intro os
    induction os with
    | nil => intro m h; exact h.resolve_right (by simp)
    | cons o os ih =>
      intro m h
      rw [List.foldl_cons]
      refine ih _ ?_
      rcases h with h | h
      · left
        cases o with
        | tmp u => simp only [bit_or, h, Bool.true_or]
        | const v => exact h
        | func f => exact h
        | global g => exact h
      · rcases List.mem_cons.1 h with rfl | h
        · left; simp only [bit_or, bit_one, Bool.or_true]
        · exact .inr h
  exact key os 0 (.inr h)

section
variable {P : Program} {od : Nat → Option Od} {ds : Nat → Option Ds} {tt : Nat → TI} {D : Rg} {N : Nat}
theorem OdIn.mono {rd rd' : Nat → Prop} (h : ∀ t, rd t → rd' t) {o : Od} (ho : OdIn rd o) : OdIn rd' o := by
  cases o with
  | t n g => obtain ⟨h1, h2, h3⟩ := ho; exact ⟨h1, h n h2, h3⟩
  | k v => trivial
  | f id => trivial
theorem AE.mono {rd rd' : Nat → Prop} {d : Option Nat} (h : ∀ t, rd t → rd' t) (a : A) : AE rd d a → AE rd' d a := by
  induction a with
  | fail => exact id
  | fin => exact id
  | gt n g f ih => rintro ⟨⟨h1, h2, h3⟩, h4⟩; exact ⟨⟨h1, h n h2, h3⟩, fun v => ih v (h4 v)⟩
  | gh β f ih => intro h1 b; exact ih b (h1 b)
  | pt n s v f ih => exact id
  | ph β b f ih => exact ih
  | nw b f ih => intro h1 β; exact ih β (h1 β)

def rdT (ops : Array Oper) (o : Oper) (t : Nat) : Prop := bit (rdBits ops o) t = true
theorem go_ae (E : Env P od ds tt) {ops : Array Oper} {o : Oper} {g : GO} (h : goOf D od ds tt N ops o = some g) : GAE (rdT ops o) o.dst g := by
  unfold goOf at h
  obtain ⟨_, h⟩ := guardI h
  obtain ⟨gd, hgd, h⟩ := bindI h
  obtain ⟨dd, hdd, h⟩ := bindI h
  have hin : ∀ t, Operand.tmp t ∈ o.op.operands.toList → rdT ops o t := fun t ht => by
    unfold rdT rdBits
    rw [bit_or, bitsOf_mem ht]; rfl
  have hdo : DsO o.dst dd := by
    unfold optDs at hdd
    split at hdd
    · rename_i e
      cases hdd; exact .inl ⟨e, rfl⟩
    · rename_i t e
      split at hdd
      · rename_i s hs
        cases hdd
        obtain ⟨h1, rfl⟩ := E.ds t s hs
        exact .inr ⟨_, rfl, e, h1, rfl⟩
      · cases hdd
  have hgo : ∀ p, gd = some p → OdIn (rdT ops o) p.1 := by
    intro p hp
    subst hp
    unfold gdOf at hgd
    split at hgd
    · cases hgd
    · rename_i j wt hn
      obtain ⟨q, hq, hgd⟩ := bindI hgd
      obtain ⟨t, ht, hgd⟩ := bindI hgd
      obtain ⟨htN, hgd⟩ := guardI hgd
      obtain ⟨x, hx, hgd⟩ := bindI hgd
      cases hgd
      obtain ⟨h1, rfl⟩ := E.od t x hx
      refine ⟨h1, ?_, rfl⟩
      unfold rdT rdBits
      rw [bit_or, hn]
      simp only [hq, ht, bit_one, Bool.or_true]
  split at h
  · rename_i f asx _ hop
    obtain ⟨fo, hfo, h⟩ := bindI h
    obtain ⟨xs, hxs, h⟩ := bindI h
    cases h
    have e : o.op.operands.toList = f :: asx.toList := by
      rw [hop]; simp [Op.operands, Call.operands]
    refine ⟨hgo, hdo, (oi E hfo (l := o.op.operands.toList) (by rw [e]; simp)).mono hin, fun x hx => (ois E (l := o.op.operands.toList) hxs (fun y hy => by rw [e]; exact List.mem_cons_of_mem _ hy) x hx).mono hin⟩
  · cases h
    have ha : AE (rdT ops o) o.dst (aF (aOf D od ds tt o.dst o.op)) := by
      unfold aF
      split
      · rename_i x hx; exact AE.mono hin _ (aOf_ae E hx)
      · trivial
    generalize aF (aOf D od ds tt o.dst o.op) = A0 at ha
    cases gd with
    | none => exact ha
    | some p =>
      have hsk : AE (rdT ops o) o.dst (skA dd) := by
        rcases hdo with ⟨h1, rfl⟩ | ⟨s, rfl, h1⟩
        · exact h1
        · exact ae_pd h1 _
      exact ae_rdo (hgo p rfl) fun v => ae_aG (fun b => ae_if ha hsk) hsk trivial
end

/- hbEq says the truth. -/
mutual
theorem svEq_ok : ∀ (x y : SV), svEq x y = true → x = y
  | .n, y, h => by cases y <;> simp_all [svEq]
  | .i k c, y, h => by
    cases y <;> simp [svEq] at h
    obtain ⟨h1, h2⟩ := h
    rw [h1, h2]
  | .y k a b c, y, h => by
    cases y <;> simp [svEq] at h
    obtain ⟨⟨⟨h1, h2⟩, h3⟩, h4⟩ := h
    rw [h1, h2, h3, h4]
  | .b v, y, h => by
    cases y <;> simp [svEq] at h
    rename_i v'
    cases v <;> cases v' <;> simp_all
  | .s v, y, h => by
    cases y <;> simp [svEq] at h
    rw [lEq_ok _ _ h]
  | .p β o, y, h => by
    cases y <;> simp [svEq] at h
    obtain ⟨h1, h2⟩ := h
    rw [h1, h2]
  | .pn, y, h => by cases y <;> simp_all [svEq]
  | .sl β o n, y, h => by
    cases y <;> simp [svEq] at h
    obtain ⟨⟨h1, h2⟩, h3⟩ := h
    rw [h1, h2, h3]
  | .sn, y, h => by cases y <;> simp_all [svEq]
  | .mp β, y, h => by
    cases y <;> simp [svEq] at h
    rw [h]
  | .mn, y, h => by cases y <;> simp_all [svEq]
  | .f i cs, y, h => by
    cases y <;> simp [svEq] at h
    obtain ⟨h1, h2⟩ := h
    rw [h1, svsEq_ok _ _ h2]
  | .a cs, y, h => by
    cases y <;> simp [svEq] at h
    rw [svsEq_ok _ _ h]
  | .t cs, y, h => by
    cases y <;> simp [svEq] at h
    rw [svsEq_ok _ _ h]
  | .x k, y, h => by
    cases y <;> simp [svEq] at h
    rw [h]
theorem svsEq_ok : ∀ (xs ys : List SV), svsEq xs ys = true → xs = ys
  | [], [], _ => rfl
  | [], _ :: _, h => by simp [svsEq] at h
  | _ :: _, [], h => by simp [svsEq] at h
  | x :: xs, y :: ys, h => by
    simp only [svsEq, Bool.and_eq_true] at h
    rw [svEq_ok x y h.1, svsEq_ok xs ys h.2]
theorem lEq_ok : ∀ (xs ys : List Nat), lEq xs ys = true → xs = ys
  | [], [], _ => rfl
  | [], _ :: _, h => by simp [lEq] at h
  | _ :: _, [], h => by simp [lEq] at h
  | x :: xs, y :: ys, h => by
    simp only [lEq, Bool.and_eq_true] at h
    rw [beqI h.1, lEq_ok xs ys h.2]
end
theorem mpEq_ok : ∀ (xs ys : List (SV × SV)), mpEq xs ys = true → xs = ys
  | [], [], _ => rfl
  | [], _ :: _, h => by simp [mpEq] at h
  | _ :: _, [], h => by simp [mpEq] at h
  | x :: xs, y :: ys, h => by
    simp only [mpEq, Bool.and_eq_true] at h
    rw [Prod.ext (svEq_ok _ _ h.1.1) (svEq_ok _ _ h.1.2), mpEq_ok xs ys h.2]
theorem hbEq_ok (x y : HB) (h : hbEq x y = true) : x = y := by
  cases x <;> cases y <;> simp [hbEq] at h
  · rfl
  · rw [h.1, svsEq_ok _ _ h.2]
  · rw [mpEq_ok _ _ h]

end Go.Sy

namespace Go.Sy
open Go

theorem all_iff {α : Type} (f : α → Bool) (l : List α) : all f l = true ↔ ∀ x, x ∈ l → f x = true := by
  induction l with
  | nil => exact ⟨fun _ x hx => by simp at hx, fun _ => rfl⟩
  | cons x l ih =>
    show ifL (f x) (all f l) false = true ↔ _
    cases hx : f x with
    | true =>
      rw [ifL_true, ih]
      exact ⟨fun h y hy => (List.mem_cons.1 hy).elim (fun e => e ▸ hx) (h y), fun h y hy => h y (List.mem_cons_of_mem _ hy)⟩
    | false =>
      rw [ifL_false]
      exact ⟨fun h => (by cases h), fun h => (by have := h x List.mem_cons_self; rw [hx] at this; cases this)⟩
theorem mem_iff (l : List Nat) (k : Nat) : mem l k = true ↔ k ∈ l := by
  induction l with
  | nil => exact ⟨fun h => (by cases h), fun h => (by simp at h)⟩
  | cons x l ih =>
    show ifL (Nat.beq x k) true (mem l k) = true ↔ _
    cases hx : Nat.beq x k with
    | true => rw [ifL_true]; exact ⟨fun _ => by rw [beqI hx]; exact List.mem_cons_self, fun _ => rfl⟩
    | false =>
      rw [ifL_false, ih]
      refine ⟨List.mem_cons_of_mem _, fun h => (List.mem_cons.1 h).resolve_left fun e => beqN hx e.symm⟩
theorem disj_iff (l m : List Nat) : disj l m = true ↔ ∀ x, x ∈ l → x ∈ m → False := by
  induction l with
  | nil => exact ⟨fun _ x hx => by simp at hx, fun _ => rfl⟩
  | cons x l ih =>
    show ifL (mem m x) false (disj l m) = true ↔ _
    cases hx : mem m x with
    | true =>
      rw [ifL_true]
      exact ⟨fun h => (by cases h), fun h => (h x List.mem_cons_self ((mem_iff m x).1 hx)).elim⟩
    | false =>
      rw [ifL_false, ih]
      have hx' : ¬ x ∈ m := fun h => by rw [(mem_iff m x).2 h] at hx; cases hx
      exact ⟨fun h y hy hm => (List.mem_cons.1 hy).elim (fun e => hx' (e ▸ hm)) (fun hy => h y hy hm), fun h y hy hm => h y (List.mem_cons_of_mem _ hy) hm⟩

/-- A step of the canonical run. -/
structure Sp where
  g : GO
  an : Nat
  T : TT
  H : Hp
  c : Nat
  r : R3
noncomputable def Sp.rc (s : Sp) (k : Nat) : Rec := mkR k (fpG s.g s.T s.H s.c) s.c s.r.2.2 s.H s.r.2.1
inductive Ch (cal : Call) : List (GO × Nat) → TT → Hp → Nat → List Sp → TT → Hp → Nat → Prop
  | nil {T : TT} {H : Hp} {c : Nat} : Ch cal [] T H c [] T H c
  | cons {g : GO × Nat} {l : List (GO × Nat)} {T T' : TT} {H H' : Hp} {c c' : Nat} {r : R3} {ss : List Sp} (hs : stg1 cal g.1 T H c = some r) (h : Ch cal l r.1 r.2.1 r.2.2 ss T' H' c') : Ch cal (g :: l) T H c (⟨g.1, g.2, T, H, c, r⟩ :: ss) T' H' c'

section
variable {cal : Call}
theorem rdN_ch (l : List (GO × Nat)) : ∀ (k : Nat) (acc : List Rec) (T : TT) (H : Hp) (c : Nat), rdN cal l k acc T H c ≠ .no →
    ∃ ss T' H' c', rdN cal l k acc T H c = .nrm T' H' c' ∧ Ch cal l T H c ss T' H' c' ∧
      (∀ (i : Nat) s, ss[i]? = some s → pureR (s.rc (k + i)) = true ∨ ∀ j, j ∈ acc → bit s.an j.ix = true ∨ apart j (s.rc (k + i)) = true) ∧
      (∀ (i j : Nat) s t, j < i → ss[i]? = some s → ss[j]? = some t → pureR (s.rc (k + i)) = true ∨ pureR (t.rc (k + j)) = true ∨ bit s.an (k + j) = true ∨ apart (t.rc (k + j)) (s.rc (k + i)) = true) := by
  induction l with
  | nil => intro k acc T H c _; exact ⟨[], T, H, c, rfl, .nil, fun i s h => by simp at h, fun i j s t _ h => by simp at h⟩
  | cons g l ih =>
    intro k acc T H c hne
    rw [rdN_cons] at hne ⊢
    cases hs : stg1 cal g.1 T H c with
    | none => rw [hs] at hne; exact absurd rfl hne
    | some r =>
      rw [hs] at hne
      simp only at hne ⊢
      have e0 : (⟨g.1, g.2, T, H, c, r⟩ : Sp).rc k = mkR k (fpG g.1 T H c) c r.2.2 H r.2.1 := rfl
      rcases ifK_ne hne with ⟨hp, e⟩ | ⟨hp, e⟩
      · rw [e] at hne ⊢
        obtain ⟨ss, T', H', c', h1, h2, h3, h4⟩ := ih (k + 1) acc _ _ _ hne
        refine ⟨_, T', H', c', h1, .cons hs h2, fun i s hi => ?_, fun i j s t hji hi hj => ?_⟩
        · cases i with
          | zero =>
            simp only [List.getElem?_cons_zero, Option.some.injEq] at hi
            subst hi
            exact .inl (by rw [Nat.add_zero, e0]; exact hp)
          | succ i =>
            have := h3 i s (by simpa using hi)
            rw [show k + (i + 1) = k + 1 + i by omega]; exact this
        · cases i with
          | zero => omega
          | succ i =>
            rw [show k + (i + 1) = k + 1 + i by omega]
            cases j with
            | zero =>
              simp only [List.getElem?_cons_zero, Option.some.injEq] at hj
              subst hj
              exact .inr (.inl (by rw [Nat.add_zero, e0]; exact hp))
            | succ j =>
              rw [show k + (j + 1) = k + 1 + j by omega]
              exact h4 i j s t (by omega) (by simpa using hi) (by simpa using hj)
      · rw [e] at hne ⊢
        rcases ifK_ne hne with ⟨hok, e'⟩ | ⟨hok, e'⟩
        · rw [e'] at hne ⊢
          obtain ⟨ss, T', H', c', h1, h2, h3, h4⟩ := ih (k + 1) _ _ _ _ hne
          refine ⟨_, T', H', c', h1, .cons hs h2, fun i s hi => ?_, fun i j s t hji hi hj => ?_⟩
          · cases i with
            | zero =>
              simp only [List.getElem?_cons_zero, Option.some.injEq] at hi
              subst hi
              right
              rw [Nat.add_zero, e0]
              intro j hj
              have := (all_iff _ _).1 hok j hj
              cases hb : bit g.2 j.ix with
              | true => exact .inl rfl
              | false => rw [hb, ifL_false] at this; exact .inr this
            | succ i =>
              rw [show k + (i + 1) = k + 1 + i by omega]
              rcases h3 i s (by simpa using hi) with h | h
              · exact .inl h
              · exact .inr fun j hj => h j (List.mem_cons_of_mem _ hj)
          · cases i with
            | zero => omega
            | succ i =>
              rw [show k + (i + 1) = k + 1 + i by omega]
              cases j with
              | zero =>
                simp only [List.getElem?_cons_zero, Option.some.injEq] at hj
                subst hj
                rcases h3 i s (by simpa using hi) with h | h
                · exact .inl h
                · right; right
                  rw [Nat.add_zero, e0]
                  exact h _ List.mem_cons_self
              | succ j =>
                rw [show k + (j + 1) = k + 1 + j by omega]
                exact h4 i j s t (by omega) (by simpa using hi) (by simpa using hj)
        · rw [e'] at hne; exact absurd rfl hne

theorem Ch.get {l : List (GO × Nat)} {T T' : TT} {H H' : Hp} {c c' : Nat} {ss : List Sp} (h : Ch cal l T H c ss T' H' c') : ss.length = l.length ∧ ∀ (i : Nat) s, ss[i]? = some s → l[i]? = some (s.g, s.an) ∧ stg1 cal s.g s.T s.H s.c = some s.r := by
  induction h with
  | nil => exact ⟨rfl, fun i s h => by simp at h⟩
  | cons hs h ih =>
    refine ⟨by simp [ih.1], fun i s hi => ?_⟩
    cases i with
    | zero =>
      simp only [List.getElem?_cons_zero, Option.some.injEq] at hi
      subst hi
      exact ⟨rfl, hs⟩
    | succ i => simpa using ih.2 i s (by simpa using hi)
theorem Ch.le (hle : CalLe cal) {l : List (GO × Nat)} {T T' : TT} {H H' : Hp} {c c' : Nat} {ss : List Sp} (h : Ch cal l T H c ss T' H' c') : c ≤ c' ∧ (c ≤ 16384 → c' ≤ 16384) ∧ (∀ (i : Nat) s, ss[i]? = some s → c ≤ s.c ∧ s.c ≤ s.r.2.2 ∧ s.r.2.2 ≤ c') ∧ ∀ (i j : Nat) s t, j < i → ss[i]? = some s → ss[j]? = some t → t.r.2.2 ≤ s.c := by
  induction h with
  | nil => exact ⟨Nat.le_refl _, id, fun i s h => by simp at h, fun i j s t _ h => by simp at h⟩
  | @cons g l T T' H H' c c' r ss hs h ih =>
    obtain ⟨l1, l2⟩ := stg1_le hle _ hs
    obtain ⟨i1, i2, i3, i4⟩ := ih
    refine ⟨Nat.le_trans l1 i1, fun h => i2 (l2 h), fun i s hi => ?_, fun i j s t hji hi hj => ?_⟩
    · cases i with
      | zero =>
        simp only [List.getElem?_cons_zero, Option.some.injEq] at hi
        subst hi
        exact ⟨Nat.le_refl _, l1, i1⟩
      | succ i =>
        obtain ⟨q1, q2, q3⟩ := i3 i s (by simpa using hi)
        exact ⟨Nat.le_trans l1 q1, q2, q3⟩
    · cases i with
      | zero => omega
      | succ i =>
        cases j with
        | zero =>
          simp only [List.getElem?_cons_zero, Option.some.injEq] at hj
          subst hj
          exact (i3 i s (by simpa using hi)).1
        | succ j => exact i4 i j s t (by omega) (by simpa using hi) (by simpa using hj)
end

/- The states of a region. -/
structure St where
  T : TT
  H : Hp
  U : Nat → Prop
  dp : H.dp 7
open Classical in
noncomputable def mkSt (T : TT) (H : Hp) (U : Nat → Prop) : Option St := if h : H.dp 7 then some ⟨T, H, U, h⟩ else none
def upU (U : Nat → Prop) (c c' : Nat) : Nat → Prop := fun β => U β ∨ (c ≤ β ∧ β < c')
open Classical in
noncomputable def stS (cal : Call) (ss : List Sp) (i : Nat) (x : St) : Option St :=
  match ss[i]? with
  | none => none
  | some s => match stg1 cal s.g x.T x.H s.c with
    | none => none
    | some r => if Fs x.U s.c r.2.2 ∧ s.c ≤ 16384 then mkSt r.1 r.2.1 (upU x.U s.c r.2.2) else none
/-- What is seen of a state. -/
noncomputable def vwS (x : St) (k : Nat) : SV × HB × Prop :=
  if k % 2 = 0 then (if k / 2 < 256 then getT (k / 2) x.T else .n, .dead, False) else (.n, if k / 2 < 16384 then x.H.get (k / 2) else .dead, x.U (k / 2))
def key (A B : Nat → Prop) (k : Nat) : Prop := if k % 2 = 0 then A (k / 2) else B (k / 2)
/-- The footprints. -/
def RS0 (ss : List Sp) (rt : Nat → Nat → Prop) (i : Nat) : Nat → Prop := key (rt i) fun β => ∃ s, ss[i]? = some s ∧ (RH s.g s.T s.H s.c s.r β ∨ WH s.g s.T s.H s.c s.r β)
def WS0 (ss : List Sp) (wt : Nat → Option Nat) (i : Nat) : Nat → Prop := key (fun t => wt i = some t) fun β => ∃ s, ss[i]? = some s ∧ WH s.g s.T s.H s.c s.r β

section
variable {cal : Call} {x y : St}
theorem vw_tmp (h : ∀ t, t < 256 → getT t y.T = getT t x.T) {k : Nat} (hk : k % 2 = 0) : vwS y k = vwS x k := by
  unfold vwS
  rw [if_pos hk, if_pos hk]
  by_cases h1 : k / 2 < 256
  · rw [if_pos h1, if_pos h1, h _ h1]
  · rw [if_neg h1, if_neg h1]
theorem vw_tmp1 {t : Nat} (ht : t < 256) : vwS y (2 * t) = vwS x (2 * t) ↔ getT t y.T = getT t x.T := by
  unfold vwS
  have e1 : 2 * t % 2 = 0 := by omega
  have e2 : 2 * t / 2 = t := by omega
  rw [if_pos e1, if_pos e1, e2, if_pos ht, if_pos ht]
  exact ⟨fun h => (Prod.mk.inj h).1, fun h => by rw [h]⟩
theorem vw_hp1 {β : Nat} : vwS y (2 * β + 1) = vwS x (2 * β + 1) ↔ (β < 16384 → y.H.get β = x.H.get β) ∧ (y.U β ↔ x.U β) := by
  unfold vwS
  have e1 : ¬ (2 * β + 1) % 2 = 0 := by omega
  have e2 : (2 * β + 1) / 2 = β := by omega
  rw [if_neg e1, if_neg e1, e2]
  constructor
  · intro h
    obtain ⟨h1, h2⟩ := Prod.mk.inj (Prod.mk.inj h).2
    refine ⟨fun hb => ?_, by rw [h2]⟩
    rwa [if_pos hb, if_pos hb] at h1
  · rintro ⟨h1, h2⟩
    rw [propext h2]
    by_cases hb : β < 16384
    · rw [if_pos hb, if_pos hb, h1 hb]
    · rw [if_neg hb, if_neg hb]
theorem key_tmp {A B : Nat → Prop} {t : Nat} : key A B (2 * t) ↔ A t := by
  unfold key
  have e1 : 2 * t % 2 = 0 := by omega
  have e2 : 2 * t / 2 = t := by omega
  rw [if_pos e1, e2]
theorem key_hp {A B : Nat → Prop} {β : Nat} : key A B (2 * β + 1) ↔ B β := by
  unfold key
  have e1 : ¬ (2 * β + 1) % 2 = 0 := by omega
  have e2 : (2 * β + 1) / 2 = β := by omega
  rw [if_neg e1, e2]
theorem key_ind {p : Nat → Prop} (h1 : ∀ t, p (2 * t)) (h2 : ∀ β, p (2 * β + 1)) (k : Nat) : p k := by
  by_cases h : k % 2 = 0
  · have : k = 2 * (k / 2) := by omega
    rw [this]; exact h1 _
  · have : k = 2 * (k / 2) + 1 := by omega
    rw [this]; exact h2 _
theorem vw_tmp0 {t : Nat} (ht : ¬ t < 256) : vwS y (2 * t) = vwS x (2 * t) := by
  unfold vwS
  have e1 : 2 * t % 2 = 0 := by omega
  have e2 : 2 * t / 2 = t := by omega
  rw [if_pos e1, if_pos e1, e2, if_neg ht, if_neg ht]

theorem stS_some {ss : List Sp} {i : Nat} {s : Sp} (hs : ss[i]? = some s) {r : R3} (hr : stg1 cal s.g x.T x.H s.c = some r) (hf : Fs x.U s.c r.2.2) (hc : s.c ≤ 16384) (hd : r.2.1.dp 7) : stS cal ss i x = some ⟨r.1, r.2.1, upU x.U s.c r.2.2, hd⟩ := by
  simp only [stS, hs, hr, if_pos (And.intro hf hc), mkSt, dif_pos hd]
theorem stS_inv {ss : List Sp} {i : Nat} {x' : St} (h : stS cal ss i x = some x') : ∃ s r, ss[i]? = some s ∧ stg1 cal s.g x.T x.H s.c = some r ∧ Fs x.U s.c r.2.2 ∧ s.c ≤ 16384 ∧ x'.T = r.1 ∧ x'.H = r.2.1 ∧ x'.U = upU x.U s.c r.2.2 := by
  unfold stS at h
  split at h
  · cases h
  · rename_i s hs
    split at h
    · cases h
    · rename_i r hr
      split at h
      · rename_i hf
        unfold mkSt at h
        split at h
        · cases h
          exact ⟨s, r, hs, hr, hf.1, hf.2, rfl, rfl, rfl⟩
        · cases h
      · cases h

/-- A step of the canonical run is local. -/
theorem loc_step (hle : CalLe cal) (hcl : CalLB cal) {ss : List Sp} {rt : Nat → Nat → Prop} {wt : Nat → Option Nat} {i : Nat} {s : Sp} (hs : ss[i]? = some s) (hg : GAE (rt i) (wt i) s.g) (hr : stg1 cal s.g s.T s.H s.c = some s.r) (hc : s.c ≤ 16384)
    (eT : x.T = s.T) (eH : x.H = s.H) (hf : Fs x.U s.c s.r.2.2) (hd : s.r.2.1.dp 7) : Lgo.Loc vwS (stS cal ss) (RS0 ss rt) (WS0 ss wt) i x ∧ stS cal ss i x = some ⟨s.r.1, s.r.2.1, upU x.U s.c s.r.2.2, hd⟩ := by
  have d1 : s.H.dp 7 := by rw [← eH]; exact x.dp
  have gl := g_loc hle hcl hg hr hc d1
  have hx : stS cal ss i x = some ⟨s.r.1, s.r.2.1, upU x.U s.c s.r.2.2, hd⟩ := stS_some hs (by rw [eT, eH]; exact hr) hf hc hd
  obtain ⟨h16', h16⟩ := stg1_le hle _ hr
  have h16 := h16 hc
  refine ⟨⟨_, hx, ?_, fun y hy => ?_⟩, hx⟩
  · obtain ⟨T2', H2', k1, k2, k3, k4⟩ := gl.run s.T s.H d1 (fun _ _ _ => rfl) (fun _ _ _ => rfl)
    refine key_ind (fun t hw => ?_) (fun β hw => ?_)
    · have hw : ¬ wt i = some t := fun h => hw (key_tmp.2 h)
      by_cases ht : t < 256
      · rw [vw_tmp1 ht, eT]; exact (k3.2 t ht hw).2
      · exact vw_tmp0 ht
    · have hw : ¬ WH s.g s.T s.H s.c s.r β := fun h => hw (key_hp.2 ⟨s, hs, h⟩)
      rw [vw_hp1, eH]
      refine ⟨fun hb => (k4.2 β hb hw).2, ?_⟩
      constructor
      · rintro (h | ⟨h1, h2⟩)
        · exact h
        · exact absurd (gl.new β h1 h2) hw
      · exact .inl
  · have ht : AgT (rt i) s.T y.T := fun t ht hrt => by
      have := (vw_tmp1 ht).1 (hy (2 * t) (key_tmp.2 hrt))
      rw [this, eT]
    have hh : AgH (RH s.g s.T s.H s.c s.r) s.H y.H := fun β hb hrh => by
      have := ((vw_hp1).1 (hy (2 * β + 1) (key_hp.2 ⟨s, hs, .inl hrh⟩))).1 hb
      rw [this, eH]
    have hu : ∀ β, s.c ≤ β → β < s.r.2.2 → (y.U β ↔ x.U β) := fun β h1 h2 => ((vw_hp1).1 (hy (2 * β + 1) (key_hp.2 ⟨s, hs, .inr (gl.new β h1 h2)⟩))).2
    obtain ⟨T2', H2', k1, k2, k3, k4⟩ := gl.run y.T y.H y.dp ht hh
    have hfy : Fs y.U s.c s.r.2.2 := fun β h1 h2 h => hf β h1 h2 ((hu β h1 h2).1 h)
    refine ⟨_, stS_some hs k1 hfy hc k2, ?_, ?_⟩
    · refine key_ind (fun t hw => ?_) (fun β hw => ?_)
      · have hw : wt i = some t := key_tmp.1 hw
        by_cases ht : t < 256
        · rw [vw_tmp1 ht]; exact k3.1 t ht hw
        · exact vw_tmp0 ht
      · obtain ⟨s', hs', hw⟩ := key_hp.1 hw
        rw [hs] at hs'; cases hs'
        rw [vw_hp1]
        refine ⟨fun hb => k4.1 β hb hw, ?_⟩
        -- a number that is written is new, or it was there
        show (y.U β ∨ _) ↔ (x.U β ∨ _)
        by_cases hn : s.c ≤ β ∧ β < s.r.2.2
        · exact ⟨fun _ => .inr hn, fun _ => .inr hn⟩
        · have hu1 := ((vw_hp1).1 (hy (2 * β + 1) (key_hp.2 ⟨s, hs, .inr hw⟩))).2
          exact ⟨fun h => h.elim (fun h => .inl (hu1.1 h)) (fun h => absurd h hn), fun h => h.elim (fun h => .inl (hu1.2 h)) (fun h => absurd h hn)⟩
    · refine key_ind (fun t hw => ?_) (fun β hw => ?_)
      · have hw : ¬ wt i = some t := fun h => hw (key_tmp.2 h)
        by_cases ht : t < 256
        · rw [vw_tmp1 ht]; exact (k3.2 t ht hw).1
        · exact vw_tmp0 ht
      · have hw : ¬ WH s.g s.T s.H s.c s.r β := fun h => hw (key_hp.2 ⟨s, hs, h⟩)
        rw [vw_hp1]
        refine ⟨fun hb => (k4.2 β hb hw).1, ?_⟩
        constructor
        · rintro (h | ⟨h1, h2⟩)
          · exact h
          · exact absurd (gl.new β h1 h2) hw
        · exact .inl
end

/- The canonical run. -/
section
variable {cal : Call}
theorem upU_upU (U : Nat → Prop) {c c1 c2 : Nat} (h1 : c ≤ c1) (h2 : c1 ≤ c2) : upU (upU U c c1) c1 c2 = upU U c c2 := by
  funext β
  apply propext
  constructor
  · rintro ((h | h) | h)
    · exact .inl h
    · exact .inr (by omega)
    · exact .inr (by omega)
  · rintro (h | h)
    · exact .inl (.inl h)
    · by_cases hb : β < c1
      · exact .inl (.inr (by omega))
      · exact .inr (by omega)
theorem Ch.gl (hle : CalLe cal) (hcl : CalLB cal) {rt : Nat → Nat → Prop} {wt : Nat → Option Nat} {l : List (GO × Nat)} {T T' : TT} {H H' : Hp} {c c' : Nat} {ss : List Sp} (h : Ch cal l T H c ss T' H' c') : ∀ (k : Nat), (∀ (i : Nat) s, ss[i]? = some s → GAE (rt (k + i)) (wt (k + i)) s.g) → c ≤ 16384 → H.dp 7 → H'.dp 7 ∧ ∀ (i : Nat) s, ss[i]? = some s → s.c ≤ 16384 ∧ s.H.dp 7 ∧ GL cal (rt (k + i)) (wt (k + i)) s.g s.T s.H s.c s.r := by
  induction h with
  | nil => intro k _ _ d; exact ⟨d, fun i s h => by simp at h⟩
  | cons hs h ih =>
    intro k hg hc d
    have g0 := g_loc hle hcl (hg 0 _ rfl) hs hc d
    obtain ⟨q1, q2⟩ := ih (k + 1) (fun i s hi => by have := hg (i + 1) s (by simpa using hi); rwa [show k + (i + 1) = k + 1 + i by omega] at this) ((stg1_le hle _ hs).2 hc) g0.dp
    refine ⟨q1, fun i s hi => ?_⟩
    cases i with
    | zero =>
      simp only [List.getElem?_cons_zero, Option.some.injEq] at hi
      subst hi
      exact ⟨hc, d, g0⟩
    | succ i =>
      have := q2 i s (by simpa using hi)
      rwa [show k + 1 + i = k + (i + 1) by omega] at this
theorem Ch.runs (hle : CalLe cal) (hcl : CalLB cal) {ss0 : List Sp} {rt : Nat → Nat → Prop} {wt : Nat → Option Nat} {l : List (GO × Nat)} {T T' : TT} {H H' : Hp} {c c' : Nat} {ss : List Sp} (h : Ch cal l T H c ss T' H' c') : ∀ (k : Nat) (x : St), (∀ (i : Nat) s, ss[i]? = some s → ss0[k + i]? = some s) → (∀ (i : Nat) s, ss[i]? = some s → GAE (rt (k + i)) (wt (k + i)) s.g) →
    c ≤ 16384 → x.T = T → x.H = H → Fs x.U c c' → ∃ z : St, Lgo.Runs vwS (stS cal ss0) (RS0 ss0 rt) (WS0 ss0 wt) (List.range' k ss.length) x z ∧ z.T = T' ∧ z.H = H' ∧ z.U = upU x.U c c' := by
  induction h with
  | nil =>
    intro k x _ _ _ eT eH _
    refine ⟨x, .nil, eT, eH, ?_⟩
    funext β
    exact propext ⟨.inl, fun h => h.elim id (fun h => by omega)⟩
  | @cons g l T T' H H' c c' r ss hs h ih =>
    intro k x hss hg hc eT eH hf
    obtain ⟨l1, l2⟩ := stg1_le hle _ hs
    have l3 := h.le hle
    have d : H.dp 7 := by rw [← eH]; exact x.dp
    have g0 := g_loc hle hcl (hg 0 _ rfl) hs hc d
    have hf0 : Fs x.U c r.2.2 := hf.less l3.1
    have hs0 : ss0[k]? = some ⟨g.1, g.2, T, H, c, r⟩ := hss 0 _ rfl
    obtain ⟨q1, q2⟩ := loc_step hle hcl (rt := rt) (wt := wt) hs0 (hg 0 _ rfl) hs hc eT eH hf0 g0.dp
    obtain ⟨z, z1, z2, z3, z4⟩ := ih (k + 1) ⟨r.1, r.2.1, upU x.U c r.2.2, g0.dp⟩ (fun i s hi => by have := hss (i + 1) s (by simpa using hi); rwa [show k + (i + 1) = k + 1 + i by omega] at this)
      (fun i s hi => by have := hg (i + 1) s (by simpa using hi); rwa [show k + (i + 1) = k + 1 + i by omega] at this) (l2 hc) rfl rfl (fun β h1 h2 h => by
        rcases h with h | h
        · exact hf β (by omega) h2 h
        · omega)
    refine ⟨z, ?_, z2, z3, by rw [z4]; exact upU_upU x.U l1 l3.1⟩
    rw [show (⟨g.1, g.2, T, H, c, r⟩ :: ss : List Sp).length = ss.length + 1 from rfl, List.range'_succ]
    exact .cons q1 q2 z1
end

/- Footprints that do not meet. -/
section
theorem mkR_o {a : A} {an : Nat} {T : TT} {H : Hp} {c : Nat} {r : R3} {k : Nat} : ((⟨.o a, an, T, H, c, r⟩ : Sp).rc k).cl = false ∧ (∀ β, β ∈ ((⟨.o a, an, T, H, c, r⟩ : Sp).rc k).rd ↔ RdA β a T H c) ∧ (∀ β, β ∈ ((⟨.o a, an, T, H, c, r⟩ : Sp).rc k).wr ↔ WrA β a T H c) := by
  refine ⟨rfl, fun β => ?_, fun β => ?_⟩
  · have := (ft_mem β a T H c [] []).1
    have e : ((⟨.o a, an, T, H, c, r⟩ : Sp).rc k).rd = (ftA a T H c [] []).1 := rfl
    rw [e, this]; simp
  · have := (ft_mem β a T H c [] []).2
    have e : ((⟨.o a, an, T, H, c, r⟩ : Sp).rc k).wr = (ftA a T H c [] []).2 := rfl
    rw [e, this]; simp
def SpRW (s : Sp) (β : Nat) : Prop := RH s.g s.T s.H s.c s.r β ∨ WH s.g s.T s.H s.c s.r β
def SpW (s : Sp) (β : Nat) : Prop := WH s.g s.T s.H s.c s.r β
def Sep (s t : Sp) : Prop := (∀ β, SpW s β → ¬ SpRW t β) ∧ ∀ β, SpW t β → ¬ SpRW s β
theorem sep_call {u v : Sp} {k l : Nat} (hu : (u.rc k).cl = true) (hv : (v.rc l).cl = false) (hun : u.c ≤ u.r.2.2) (hvn : ∀ β, v.c ≤ β → β < v.r.2.2 → SpW v β) (h : apHeap (u.rc k) (v.rc l) = true) : Sep u v := by
  obtain ⟨ug, ua, uT, uH, uc, ur⟩ := u
  obtain ⟨vg, va, vT, vH, vc, vr⟩ := v
  cases ug with
  | o a => cases hu
  | c gd dd f xs =>
    cases vg with
    | c _ _ _ _ => cases hv
    | o a =>
      obtain ⟨_, hr, hw⟩ := mkR_o (a := a) (an := va) (T := vT) (H := vH) (c := vc) (r := vr) (k := l)
      unfold apHeap at h
      have h1 : ∀ β, RdA β a vT vH vc → ifL (Nat.blt β uc) (hbEq (uH.get β) (ur.2.1.get β)) (Nat.ble ur.2.2 β) = true := by
        intro β hβ
        cases h0 : all (fun β => ifL (Nat.blt β (Sp.rc ⟨.c gd dd f xs, ua, uT, uH, uc, ur⟩ k).c0) (hbEq ((Sp.rc ⟨.c gd dd f xs, ua, uT, uH, uc, ur⟩ k).H0.get β) ((Sp.rc ⟨.c gd dd f xs, ua, uT, uH, uc, ur⟩ k).H1.get β)) (Nat.ble (Sp.rc ⟨.c gd dd f xs, ua, uT, uH, uc, ur⟩ k).c1 β)) (Sp.rc ⟨.o a, va, vT, vH, vc, vr⟩ l).rd with
        | false => rw [h0] at h; cases h
        | true => exact (all_iff _ _).1 h0 β ((hr β).2 hβ)
      have h2 : ∀ β, WrA β a vT vH vc → ur.2.2 ≤ β := by
        intro β hβ
        cases h0 : all (fun β => ifL (Nat.blt β (Sp.rc ⟨.c gd dd f xs, ua, uT, uH, uc, ur⟩ k).c0) (hbEq ((Sp.rc ⟨.c gd dd f xs, ua, uT, uH, uc, ur⟩ k).H0.get β) ((Sp.rc ⟨.c gd dd f xs, ua, uT, uH, uc, ur⟩ k).H1.get β)) (Nat.ble (Sp.rc ⟨.c gd dd f xs, ua, uT, uH, uc, ur⟩ k).c1 β)) (Sp.rc ⟨.o a, va, vT, vH, vc, vr⟩ l).rd with
        | false => rw [h0] at h; cases h
        | true =>
          rw [h0, ifL_true] at h
          exact bleI ((all_iff _ _).1 h β ((hw β).2 hβ))
      refine ⟨fun β hβ hrw => ?_, fun β hβ hrw => ?_⟩
      · have hlt : β < ur.2.2 := by
          have hun : uc ≤ ur.2.2 := hun
          rcases hβ with ⟨hβ, _⟩ | ⟨_, hβ⟩
          · have hβ : β < uc := hβ
            omega
          · exact hβ
        have hnw : ∀ β', WrA β' a vT vH vc → β' = β → False := fun β' hw' e => by have := h2 β' hw'; omega
        rcases hrw with (hrw | hrw) | hrw
        · have := h1 β hrw
          rcases hβ with ⟨hβ, hne⟩ | ⟨hge, hβ⟩
          · rw [bltT hβ, ifL_true] at this
            exact hne (hbEq_ok _ _ this).symm
          · rw [bltF hge, ifL_false] at this
            have := bleI this
            omega
        · exact hnw β (hvn β hrw.1 hrw.2) rfl
        · exact hnw β hrw rfl
      · have hge := h2 β hβ
        have hun : uc ≤ ur.2.2 := hun
        rcases hrw with hrw | (⟨hrw, _⟩ | ⟨_, hrw⟩)
        · have hrw : β < ur.2.2 := hrw
          omega
        · have hrw : β < uc := hrw
          omega
        · have hrw : β < ur.2.2 := hrw
          omega
theorem sep_pure {u v : Sp} {k : Nat} (h : pureR (u.rc k) = true) (hun : ∀ β, u.c ≤ β → β < u.r.2.2 → SpW u β) : Sep u v := by
  obtain ⟨ug, ua, uT, uH, uc, ur⟩ := u
  cases ug with
  | c gd dd f xs => cases h
  | o a =>
    obtain ⟨_, hr, hw⟩ := mkR_o (a := a) (an := ua) (T := uT) (H := uH) (c := uc) (r := ur) (k := k)
    unfold pureR at h
    have hnil : ∀ l : List Nat, isNil l = true → l = [] := by intro l hl; cases l with | nil => rfl | cons x l => cases hl
    have e0 : (Sp.rc ⟨.o a, ua, uT, uH, uc, ur⟩ k).cl = false := rfl
    rw [e0, ifL_false] at h
    cases h1 : isNil (Sp.rc ⟨.o a, ua, uT, uH, uc, ur⟩ k).rd with
    | false => rw [h1] at h; cases h
    | true =>
      rw [h1, ifL_true] at h
      have h1 := hnil _ h1
      have h2 := hnil _ h
      have nw : ∀ β, ¬ SpW ⟨.o a, ua, uT, uH, uc, ur⟩ β := fun β hβ => by
        have := (hw β).2 hβ
        rw [h2] at this; simp at this
      refine ⟨fun β hβ => absurd hβ (nw β), fun β _ hrw => ?_⟩
      rcases hrw with (hrw | hrw) | hrw
      · have := (hr β).2 hrw
        rw [h1] at this; simp at this
      · exact nw β (hun β hrw.1 hrw.2)
      · exact nw β hrw
theorem Sep.symm {u v : Sp} (h : Sep u v) : Sep v u := ⟨h.2, h.1⟩
theorem sep_apart {u v : Sp} {k l : Nat} (hu : u.c ≤ u.r.2.2) (hv : v.c ≤ v.r.2.2) (hun : ∀ β, u.c ≤ β → β < u.r.2.2 → SpW u β) (hvn : ∀ β, v.c ≤ β → β < v.r.2.2 → SpW v β) (h : apart (u.rc k) (v.rc l) = true) : Sep u v := by
  unfold apart at h
  cases hu1 : (u.rc k).cl with
  | true =>
    rw [hu1, ifL_true] at h
    cases hv1 : (v.rc l).cl with
    | true => rw [hv1] at h; cases h
    | false => rw [hv1, ifL_false] at h; exact sep_call hu1 hv1 hu hvn h
  | false =>
    rw [hu1, ifL_false] at h
    cases hv1 : (v.rc l).cl with
    | true => rw [hv1, ifL_true] at h; exact (sep_call hv1 hu1 hv hun h).symm
    | false =>
      rw [hv1, ifL_false] at h
      obtain ⟨ug, ua, uT, uH, uc, ur⟩ := u
      obtain ⟨vg, va, vT, vH, vc, vr⟩ := v
      cases ug with
      | c _ _ _ _ => cases hu1
      | o a =>
        cases vg with
        | c _ _ _ _ => cases hv1
        | o b =>
          obtain ⟨_, hr, hw⟩ := mkR_o (a := a) (an := ua) (T := uT) (H := uH) (c := uc) (r := ur) (k := k)
          obtain ⟨_, hr', hw'⟩ := mkR_o (a := b) (an := va) (T := vT) (H := vH) (c := vc) (r := vr) (k := l)
          cases h1 : disj (Sp.rc ⟨.o a, ua, uT, uH, uc, ur⟩ k).wr (Sp.rc ⟨.o b, va, vT, vH, vc, vr⟩ l).rd with
          | false => rw [h1] at h; cases h
          | true =>
            rw [h1, ifL_true] at h
            cases h2 : disj (Sp.rc ⟨.o a, ua, uT, uH, uc, ur⟩ k).wr (Sp.rc ⟨.o b, va, vT, vH, vc, vr⟩ l).wr with
            | false => rw [h2] at h; cases h
            | true =>
              rw [h2, ifL_true] at h
              have h3 : disj (Sp.rc ⟨.o b, va, vT, vH, vc, vr⟩ l).wr (Sp.rc ⟨.o a, ua, uT, uH, uc, ur⟩ k).rd = true := by
                revert h
                cases disj (Sp.rc ⟨.o b, va, vT, vH, vc, vr⟩ l).wr (Sp.rc ⟨.o a, ua, uT, uH, uc, ur⟩ k).rd with
                | false => intro h; cases h
                | true => intro _; rfl
              have k1 := (disj_iff _ _).1 h1
              have k2 := (disj_iff _ _).1 h2
              have k3 := (disj_iff _ _).1 h3
              refine ⟨fun β hβ hrw => ?_, fun β hβ hrw => ?_⟩
              · rcases hrw with (hrw | hrw) | hrw
                · exact k1 β ((hw β).2 hβ) ((hr' β).2 hrw)
                · exact k2 β ((hw β).2 hβ) ((hw' β).2 (hvn β hrw.1 hrw.2))
                · exact k2 β ((hw β).2 hβ) ((hw' β).2 hrw)
              · rcases hrw with (hrw | hrw) | hrw
                · exact k3 β ((hw' β).2 hβ) ((hr β).2 hrw)
                · exact k2 β ((hw β).2 (hun β hrw.1 hrw.2)) ((hw' β).2 hβ)
                · exact k2 β ((hw β).2 hrw) ((hw' β).2 hβ)
end

end Go.Sy

namespace Go.Sy
open Go

/- The forerunners. -/
section
theorem nth_app_left {α : Type} {l m : List α} {k : Nat} (h : k < l.length) : nth (l ++ m) k = nth l k := by
  rw [nth_eq, nth_eq, List.getElem?_append_left h]
theorem fold_bit (acc : List Nat) (j : Nat) : ∀ (es : List Nat) (m : Nat), bit (es.foldl (fun l e => Nat.lor (Nat.lor l (Nat.shiftLeft 1 e)) ((nth acc e).getD 0)) m) j = true → bit m j = true ∨ ∃ e, e ∈ es ∧ (j = e ∨ bit ((nth acc e).getD 0) j = true) := by
  intro es
  induction es with
  | nil => intro m h; exact .inl h
  | cons e es ih =>
    intro m h
    rw [List.foldl_cons] at h
    rcases ih _ h with h | ⟨e', h1, h2⟩
    · rw [bit_or, bit_or, Bool.or_eq_true, Bool.or_eq_true] at h
      rcases h with (h | h) | h
      · exact .inl h
      · exact .inr ⟨e, List.mem_cons_self, .inl ((bit_one_iff e j).1 h)⟩
      · exact .inr ⟨e, List.mem_cons_self, .inr h⟩
    · exact .inr ⟨e', List.mem_cons_of_mem _ h1, h2⟩
theorem anc_ok (os : List Oper) : ∀ (k : Nat) (acc an : List Nat), ancOf os k acc = some an → acc.length = k → (∃ t, an = acc ++ t ∧ t.length = os.length) ∧ ∀ (i : Nat) o, os[i]? = some o →
    (∀ e, e ∈ o.after → Region.binds .any e = true → e.on < k + i) ∧ ∀ j, bit ((nth an (k + i)).getD 0) j = true → ∃ e, e ∈ o.after ∧ Region.binds .any e = true ∧ (j = e.on ∨ bit ((nth an e.on).getD 0) j = true) := by
  induction os with
  | nil =>
    intro k acc an h hk
    simp only [ancOf, Option.some.injEq] at h
    exact ⟨⟨[], by simp [h], rfl⟩, fun i o h => by simp at h⟩
  | cons o os ih =>
    intro k acc an h hk
    simp only [ancOf] at h
    split at h
    · rename_i hall
      rw [app_eq] at h
      obtain ⟨⟨t, h1, h2⟩, h3⟩ := ih (k + 1) _ an h (by simp [hk])
      refine ⟨⟨_ :: t, by rw [h1, List.append_assoc]; rfl, by simp [h2]⟩, fun i o' hi => ?_⟩
      cases i with
      | zero =>
        simp only [List.getElem?_cons_zero, Option.some.injEq] at hi
        subst hi
        rw [List.all_eq_true] at hall
        have hlt : ∀ e, e ∈ o.after → Region.binds .any e = true → e.on < k := fun e he hb =>
          bltI (hall e.on (List.mem_map.2 ⟨e, List.mem_filter.2 ⟨Array.mem_toList_iff.2 he, hb⟩, rfl⟩))
        refine ⟨hlt, fun j hj => ?_⟩
        rw [h1, nth_eq, List.append_assoc, List.getElem?_append_right (by omega), Nat.add_zero, hk, Nat.sub_self] at hj
        simp only [List.cons_append, List.getElem?_cons_zero, Option.getD_some] at hj
        rcases fold_bit acc j _ 0 hj with h | ⟨e, he, h⟩
        · rw [bit_zero] at h; cases h
        · obtain ⟨e', he', rfl⟩ := List.mem_map.1 he
          obtain ⟨he1, he2⟩ := List.mem_filter.1 he'
          have he1 := Array.mem_toList_iff.1 he1
          refine ⟨e', he1, he2, h.imp id fun h => ?_⟩
          rw [h1, List.append_assoc, nth_app_left (by rw [hk]; exact hlt e' he1 he2)]
          exact h
      | succ i =>
        rw [show k + (i + 1) = k + 1 + i by omega]
        exact h3 i o' (by simpa using hi)
    · cases h
noncomputable def ancL (n : Nat) (an : List Nat) (i : Nat) : List Nat := (List.range n).filter fun j => bit ((nth an i).getD 0) j
theorem ancOK {ops : Array Oper} {an : List Nat} (h : ancOf ops.toList 0 [] = some an) : Lgo.AncOK ops (ancL ops.size an) := by
  obtain ⟨⟨t, h1, h2⟩, h3⟩ := anc_ok ops.toList 0 [] an h rfl
  refine ⟨fun i o e hi he hb => ?_, fun i j hj => ?_⟩
  · have := (h3 i o (by rw [Array.getElem?_toList]; exact hi)).1 e he hb
    rwa [Nat.zero_add] at this
  · obtain ⟨hj1, hj2⟩ := List.mem_filter.1 hj
    have hn : (nth an i).getD 0 ≠ 0 := fun e => by rw [e, bit_zero] at hj2; cases hj2
    have hlt : i < ops.size := by
      rcases Nat.lt_or_ge i ops.size with h | h
      · exact h
      · exfalso
        apply hn
        have hl : an.length = ops.size := by rw [h1]; simpa using h2
        rw [nth_eq, List.getElem?_eq_none (by omega)]; rfl
    have hs : ops[i]? = some ops[i] := Array.getElem?_eq_getElem hlt
    obtain ⟨e, k1, k2, k3⟩ := (h3 i _ (by rw [Array.getElem?_toList]; exact hs)).2 j (by rw [Nat.zero_add]; exact hj2)
    exact ⟨_, e, hs, k1, k2, k3.imp id fun h => List.mem_filter.2 ⟨hj1, h⟩⟩
theorem anc_len {os : List Oper} {an : List Nat} (h : ancOf os 0 [] = some an) : an.length = os.length := by
  obtain ⟨⟨t, h1, h2⟩, _⟩ := anc_ok os 0 [] an h rfl
  rw [h1]; simpa using h2
end

/- The temporaries. -/
section
theorem tmpI_ok {x : OI} : ∀ (ys : List OI) (k : Nat), tmpI x ys k = true → ∀ (i : Nat) y, ys[i]? = some y → bit x.anc (k + i) = true ∨ (noMeet y.wr x.rd = true ∧ noMeet y.wr x.wr = true ∧ noMeet x.wr y.rd = true) := by
  intro ys
  induction ys with
  | nil => intro k _ i y h; simp at h
  | cons y ys ih =>
    intro k h i z hz
    simp only [tmpI, Bool.and_eq_true, Bool.or_eq_true] at h
    cases i with
    | zero =>
      simp only [List.getElem?_cons_zero, Option.some.injEq] at hz
      subst hz
      exact h.1.imp id fun h => ⟨h.1.1, h.1.2, h.2⟩
    | succ i =>
      have := ih (k + 1) h.2 i z (by simpa using hz)
      rwa [show k + 1 + i = k + (i + 1) by omega] at this
theorem tmpOk_ok : ∀ (xs acc : List OI), tmpOk acc xs = true → ∀ (i j : Nat) x y, j < i → acc.length ≤ i → (acc ++ xs)[i]? = some x → (acc ++ xs)[j]? = some y → bit x.anc j = true ∨ (noMeet y.wr x.rd = true ∧ noMeet y.wr x.wr = true ∧ noMeet x.wr y.rd = true) := by
  intro xs
  induction xs with
  | nil =>
    intro acc _ i j x y _ hi hx _
    rw [List.append_nil, List.getElem?_eq_none hi] at hx; cases hx
  | cons z xs ih =>
    intro acc h i j x y hji hi hx hy
    simp only [tmpOk, Bool.and_eq_true] at h
    rcases Nat.eq_or_lt_of_le hi with he | hlt
    · rw [List.getElem?_append_right (by omega), ← he, Nat.sub_self] at hx
      simp only [List.getElem?_cons_zero, Option.some.injEq] at hx
      subst hx
      rw [List.getElem?_append_left (by omega)] at hy
      have := tmpI_ok acc 0 h.1 j y hy
      rwa [Nat.zero_add] at this
    · have e : acc ++ z :: xs = (acc ++ [z]) ++ xs := by simp
      rw [e] at hx hy
      exact ih (acc ++ [z]) h.2 i j x y hji (by simp; omega) hx hy
theorem ois_get {ops : Array Oper} : ∀ (os : List Oper) (an : List Nat), os.length = an.length → ∀ (i : Nat) o, os[i]? = some o → (oisOf ops os an)[i]? = some ⟨(nth an i).getD 0, rdBits ops o, wrBits o⟩ := by
  intro os
  induction os with
  | nil => intro an _ i o h; simp at h
  | cons o os ih =>
    intro an hl i o' h
    cases an with
    | nil => simp at hl
    | cons a an =>
      cases i with
      | zero =>
        simp only [List.getElem?_cons_zero, Option.some.injEq] at h
        subst h; rfl
      | succ i =>
        have := ih an (by simpa using hl) i o' (by simpa using h)
        show (oisOf ops os an)[i]? = some ⟨(nth an i).getD 0, _, _⟩
        exact this
theorem zip_get : ∀ (l : List GO) (an : List Nat), l.length = an.length → (zipO l an).length = l.length ∧ ∀ (i : Nat) p, (zipO l an)[i]? = some p → l[i]? = some p.1 ∧ p.2 = (nth an i).getD 0 := by
  intro l
  induction l with
  | nil => intro an _; exact ⟨rfl, fun i p h => by simp [zipO] at h⟩
  | cons g l ih =>
    intro an hl
    cases an with
    | nil => simp at hl
    | cons a an =>
      obtain ⟨h1, h2⟩ := ih an (by simpa using hl)
      refine ⟨by simp [zipO, h1], fun i p h => ?_⟩
      cases i with
      | zero =>
        simp only [zipO, List.getElem?_cons_zero, Option.some.injEq] at h
        subst h; exact ⟨rfl, rfl⟩
      | succ i =>
        exact h2 i p (by simpa [zipO] using h)
theorem gos_get {D : Rg} {od : Nat → Option Od} {ds : Nat → Option Ds} {tt : Nat → TI} {N : Nat} {ops : Array Oper} : ∀ (os : List Oper) (l : List GO), gosOf D od ds tt N ops os = some l → l.length = os.length ∧ ∀ (i : Nat) g, l[i]? = some g → ∃ o, os[i]? = some o ∧ goOf D od ds tt N ops o = some g := by
  intro os
  induction os with
  | nil =>
    intro l h
    simp only [gosOf, Option.some.injEq] at h
    subst h; exact ⟨rfl, fun i g h => by simp at h⟩
  | cons o os ih =>
    intro l h
    simp only [gosOf] at h
    split at h
    · rename_i g r h1 h2
      cases h
      obtain ⟨k1, k2⟩ := ih r h2
      refine ⟨by simp [k1], fun i g' hi => ?_⟩
      cases i with
      | zero =>
        simp only [List.getElem?_cons_zero, Option.some.injEq] at hi
        subst hi; exact ⟨o, rfl, h1⟩
      | succ i => simpa using k2 i g' (by simpa using hi)
    · cases h
end

section
variable {Γ : Cx} {od : Nat → Option Od} {ds : Nat → Option Ds} {tt : Nat → TI} {B : Bs} {N : Nat} {D : Rg} {Z : Zm} {T : TT} {H : Hp} {U : Nat → Prop} {c : Nat} {a : Act} {w : World}
/-- What is seen of the state is all that counts. -/
theorem J.eqv (h : J Γ B N Z T H U a w) {T' : TT} {H' : Hp} {U' : Nat → Prop} (ht : ∀ t, t < 256 → getT t T' = getT t T) (hh : ∀ β, β < 16384 → H'.get β = H.get β) (hd : H'.dp 7) (hu : ∀ β, U β → U' β) : J Γ B N Z T' H' U' a w := by
  refine ⟨fun t h1 => by rw [ht t h1]; exact h.tm t h1, h.defers, h.tsz, ⟨hd, fun β hb => by rw [hh β hb]; exact h.hk.ok β hb, fun β β' hb hb' h1 h2 => ?_, fun β hb => hu β (h.hk.dlt β hb)⟩, ⟨h.fr.ext, fun β hb h1 => ?_, h.fr.keep, h.fr.os, h.fr.tape, h.fr.out, h.fr.size⟩⟩
  · rw [hh β hb] at h1
    rw [hh β' hb'] at h2
    exact h.hk.sep β β' hb hb' h1 h2
  · rw [hh β hb] at h1
    exact h.fr.own β hb h1
theorem HBok.heap {w' : World} (hw : w'.heap = w.heap) {β : Nat} {b : HB} (h : HBok Γ Z w β b) : HBok Γ Z w' β b := h.keep (Zle.refl Z) fun o ho => by rw [hw]; exact ho
theorem J.drawn (h : J Γ B N Z T H U a w) : J Γ B N Z T H U a { w with drawn := w.drawn + 1 } :=
  ⟨h.tm, h.defers, h.tsz, ⟨h.hk.dp, fun β hb => (h.hk.ok β hb).heap rfl, h.hk.sep, h.hk.dlt⟩, ⟨h.fr.ext, h.fr.own, h.fr.keep, h.fr.os, h.fr.tape, h.fr.out, h.fr.size⟩⟩
def JX (Γ : Cx) (B : Bs) (N : Nat) (x : St) (a : Act) (w : World) : Prop := ∃ Z, J Γ B N Z x.T x.H x.U a w

/-- **Regions in any order are right.** -/
theorem rd_ok (hm : Γ.P.follows .mixedOrders = true) (E : Env Γ.P od ds tt) (hD : D.has Γ.n Γ.m) {cal : Call} (hcal : CalOK Γ cal) (hle : CalLe cal) (hcl : CalLB cal) : RdOK Γ D od ds tt N cal := by
  intro B id ops l an hfx hl han htm T H U c a w Z hc hfs hj hne
  have hlen : an.length = ops.toList.length := anc_len han
  obtain ⟨g1, g2⟩ := gos_get ops.toList l hl
  obtain ⟨z1, z2⟩ := zip_get l an (by rw [g1, hlen])
  unfold rdf at hne hfs ⊢
  obtain ⟨ss, T', H', c', e, hch, _, hpair⟩ := rdN_ch (zipO l an) 0 [] T H c hne
  rw [e] at hfs ⊢
  obtain ⟨s1, s2⟩ := hch.get
  have hsslen : ss.length = ops.size := by rw [s1, z1, g1]; simp
  -- each step's operation
  have hop : ∀ (i : Nat) s, ss[i]? = some s → ∃ o, ops[i]? = some o ∧ goOf D od ds tt N ops o = some s.g ∧ s.an = (nth an i).getD 0 := by
    intro i s hs
    obtain ⟨h1, _⟩ := s2 i s hs
    obtain ⟨h2, h3⟩ := z2 i _ h1
    obtain ⟨o, h4, h5⟩ := g2 i _ h2
    exact ⟨o, by rw [← Array.getElem?_toList]; exact h4, h5, h3⟩
  let rt : Nat → Nat → Prop := fun i => match ops[i]? with | some o => rdT ops o | none => fun _ => False
  let wt : Nat → Option Nat := fun i => match ops[i]? with | some o => o.dst | none => none
  have hgae : ∀ (i : Nat) s, ss[i]? = some s → GAE (rt i) (wt i) s.g := by
    intro i s hs
    obtain ⟨o, h1, h2, _⟩ := hop i s hs
    have e1 : rt i = rdT ops o := by simp only [rt, h1]
    have e2 : wt i = o.dst := by simp only [wt, h1]
    rw [e1, e2]
    exact go_ae E h2
  have hgae0 : ∀ (i : Nat) s, ss[i]? = some s → GAE (rt (0 + i)) (wt (0 + i)) s.g := fun i s hs => by rw [Nat.zero_add]; exact hgae i s hs
  obtain ⟨d', hgl⟩ := hch.gl hle hcl (rt := rt) (wt := wt) 0 hgae0 hc hj.hk.dp
  obtain ⟨l1, l2, l3, l4⟩ := hch.le hle
  obtain ⟨z, hruns, zT, zH, zU⟩ := hch.runs hle hcl (ss0 := ss) (rt := rt) (wt := wt) 0 ⟨T, H, U, hj.hk.dp⟩ (fun i s hi => by rw [Nat.zero_add]; exact hi) hgae0 hc rfl rfl hfs
  rw [← List.range_eq_range', hsslen] at hruns
  -- pairs
  have hap : ∀ i j : Nat, j < i → i < ops.size → j ∈ ancL ops.size an i ∨ Lgo.Apart (RS0 ss rt) (WS0 ss wt) j i := by
    intro i j hji hi
    have hi' : ss[i]? = some (ss[i]'(by omega)) := List.getElem?_eq_getElem (by omega)
    have hj' : ss[j]? = some (ss[j]'(by omega)) := List.getElem?_eq_getElem (by omega)
    generalize ss[i]'(by omega) = s at hi'
    generalize ss[j]'(by omega) = t at hj'
    obtain ⟨oi', k1, k2, k3⟩ := hop i s hi'
    obtain ⟨oj, m1, m2, m3⟩ := hop j t hj'
    by_cases hb : bit ((nth an i).getD 0) j = true
    · exact .inl (List.mem_filter.2 ⟨List.mem_range.2 (by omega), hb⟩)
    right
    -- temporaries
    have htmp := tmpOk_ok (oisOf ops ops.toList an) [] htm i j _ _ hji (Nat.zero_le _) (by rw [List.nil_append]; exact ois_get ops.toList an hlen.symm i oi' (by rw [Array.getElem?_toList]; exact k1))
      (by rw [List.nil_append]; exact ois_get ops.toList an hlen.symm j oj (by rw [Array.getElem?_toList]; exact m1))
    have htmp := htmp.resolve_left hb
    simp only at htmp
    have wbit : ∀ (o : Oper) (u : Nat), o.dst = some u → bit (wrBits o) u = true := by
      intro o u hu
      unfold wrBits; rw [hu]; exact bit_one u
    have eri : rt i = rdT ops oi' := by simp only [rt, k1]
    have erj : rt j = rdT ops oj := by simp only [rt, m1]
    have ewi : wt i = oi'.dst := by simp only [wt, k1]
    have ewj : wt j = oj.dst := by simp only [wt, m1]
    -- the heap
    have hnew : ∀ (i : Nat) s, ss[i]? = some s → s.c ≤ s.r.2.2 ∧ ∀ β, s.c ≤ β → β < s.r.2.2 → SpW s β := fun i s hs => ⟨(l3 i s hs).2.1, ((hgl i s hs).2.2).new⟩
    have hsep : Sep t s := by
      obtain ⟨n1, n2⟩ := hnew i s hi'
      obtain ⟨n3, n4⟩ := hnew j t hj'
      rcases hpair i j s t hji hi' hj' with h | h | h | h
      · exact (sep_pure h n2).symm
      · exact sep_pure h n4
      · rw [k3, Nat.zero_add] at h; exact absurd h hb
      · exact sep_apart n3 n1 n4 n2 h
    have hR : ∀ (k : Nat) (s : Sp), ss[k]? = some s → ∀ β, RS0 ss rt k (2 * β + 1) → SpRW s β := by
      intro k s hs β h
      obtain ⟨s', hs', h⟩ := key_hp.1 h
      rw [hs] at hs'; cases hs'; exact h
    have hW : ∀ (k : Nat) (s : Sp), ss[k]? = some s → ∀ β, WS0 ss wt k (2 * β + 1) → SpW s β := by
      intro k s hs β h
      obtain ⟨s', hs', h⟩ := key_hp.1 h
      rw [hs] at hs'; cases hs'; exact h
    refine ⟨key_ind (fun u hw => ?_) (fun β hw => ?_), key_ind (fun u hw => ?_) (fun β hw => ?_)⟩
    · have hw : wt j = some u := key_tmp.1 hw
      rw [ewj] at hw
      refine ⟨fun h => ?_, fun h => ?_⟩
      · have h := key_tmp.1 h
        rw [eri] at h
        exact noMeet_iff htmp.1 u (wbit oj u hw) h
      · have h : wt i = some u := key_tmp.1 h
        rw [ewi] at h
        exact noMeet_iff htmp.2.1 u (wbit oj u hw) (wbit oi' u h)
    · have h := hsep.1 β (hW j t hj' β hw)
      exact ⟨fun h' => h (hR i s hi' β h'), fun h' => h (.inr (hW i s hi' β h'))⟩
    · have hw : wt i = some u := key_tmp.1 hw
      rw [ewi] at hw
      refine ⟨fun h => ?_, fun h => ?_⟩
      · have h := key_tmp.1 h
        rw [erj] at h
        exact noMeet_iff htmp.2.2 u (wbit oi' u hw) h
      · have h : wt j = some u := key_tmp.1 h
        rw [ewj] at h
        exact noMeet_iff htmp.2.1 u (wbit oj u h) (wbit oi' u hw)
    · have h := hsep.2 β (hW i s hi' β hw)
      exact ⟨fun h' => h (hR j t hj' β h'), fun h' => h (.inr (hW j t hj' β h'))⟩
  have hreg := Lgo.region_any (P := Γ.P) (ops := ops) (vw := vwS) (st := stS cal ss) (R := RS0 ss rt) (W := WS0 ss wt) (J := JX Γ B N) (anc := ancL ops.size an) (id := id) hm (ancOK han) hap
    (fun i x x' a w Q Kt hst hjx hK => by
      obtain ⟨s, r, h1, h2, h3, h4, h5, h6, h7⟩ := stS_inv hst
      obtain ⟨o, k1, k2, _⟩ := hop i s h1
      obtain ⟨Z, hjx⟩ := hjx
      refine go_ok E hD hcal k1 k2 h4 hfx hjx h3 h2 fun a' w' Z' U' hu hj' => hK a' w' ⟨Z', ?_⟩
      refine hj'.eqv (fun t _ => by rw [h5]) (fun β _ => by rw [h6]) x'.dp (fun β hb => ?_)
      rw [h7]
      exact hu.2 β hb)
    (fun x a w hjx => by obtain ⟨Z, hjx⟩ := hjx; exact ⟨Z, hjx.drawn⟩) hruns ⟨Z, hj⟩
    (fun z' hz a w hjx => by
      obtain ⟨Z, hjx⟩ := hjx
      refine ⟨Z, hjx.eqv (fun t ht => ((vw_tmp1 ht).1 (hz (2 * t))).symm) (fun β hb => (((vw_hp1).1 (hz (2 * β + 1))).1 hb).symm) z.dp (fun β hb => (((vw_hp1).1 (hz (2 * β + 1))).2).1 hb)⟩)
  refine wp_mono hreg ?_
  rintro e a w ⟨rfl, Z', hj'⟩
  rw [zT, zH, zU] at hj'
  exact ⟨rfl, Z', upU U c c', ⟨l1, fun β hb => hb⟩, hj'⟩
end

end Go.Sy

namespace Go.Sy
open Go

section
variable {α : Type}
def lOk (p : Nat → α → Prop) (m o : Nat) : List (Nat × α) → Prop
  | [] => True
  | q :: l => p (m * q.1 + o) q.2 ∧ lOk p m o l
def Tr.ok (p : Nat → α → Prop) : Tr α → Nat → Nat → Prop
  | .lf l, m, o => lOk p m o l
  | .nd v a b, m, o => p o v ∧ a.ok p (2 * m) (m + o) ∧ b.ok p (2 * m) (2 * m + o)
theorem find_ok {p : Nat → α → Prop} {d : α} {m o : Nat} (l : List (Nat × α)) (k : Nat) (h : lOk p m o l) : find d l k = d ∨ p (m * k + o) (find d l k) := by
  induction l with
  | nil => exact .inl rfl
  | cons q l ih =>
    have e : find d (q :: l) k = cond (Nat.beq k q.1) q.2 (find d l k) := rfl
    rw [e]
    cases hb : Nat.beq k q.1 with
    | true => rw [cond_true, beqI hb]; exact .inr h.1
    | false => rw [cond_false]; exact ih h.2
theorem Tr.get_ok {p : Nat → α → Prop} {d : α} (t : Tr α) : ∀ (m o k : Nat), t.ok p m o → t.get d k = d ∨ p (m * k + o) (t.get d k) := by
  induction t with
  | lf l => intro m o k h; exact find_ok l k h
  | nd v a b iha ihb =>
    intro m o k h
    obtain ⟨h1, h2, h3⟩ := h
    have e : (Tr.nd v a b).get d k = cond (Nat.beq k 0) v (cond (Nat.beq (Nat.mod k 2) 1) (a.get d (Nat.div k 2)) (b.get d (Nat.sub (Nat.div k 2) 1))) := rfl
    rw [e]
    cases hb : Nat.beq k 0 with
    | true => rw [cond_true, beqI hb, Nat.mul_zero, Nat.zero_add]; exact .inr h1
    | false =>
      rw [cond_false]
      have hk := beqN hb
      cases hb2 : Nat.beq (Nat.mod k 2) 1 with
      | true =>
        rw [cond_true]
        have h2' := beqI hb2
        have := iha (2 * m) (m + o) (Nat.div k 2) h2
        have e2 : 2 * m * Nat.div k 2 + (m + o) = m * k + o := by
          have h2' : k % 2 = 1 := h2'
          have hd : k = 2 * (k / 2) + 1 := by omega
          show 2 * m * (k / 2) + (m + o) = m * k + o
          conv => rhs; rw [hd]
          rw [Nat.mul_add, Nat.mul_one, Nat.mul_comm 2 m, Nat.mul_assoc]
          omega
        rwa [e2] at this
      | false =>
        rw [cond_false]
        have h2' := beqN hb2
        have := ihb (2 * m) (2 * m + o) (Nat.sub (Nat.div k 2) 1) h3
        have e2 : 2 * m * Nat.sub (Nat.div k 2) 1 + (2 * m + o) = m * k + o := by
          have h2' : k % 2 ≠ 1 := h2'
          obtain ⟨j, hj⟩ : ∃ j, k = 2 * (j + 1) := ⟨k / 2 - 1, by omega⟩
          have hj2 : Nat.sub (Nat.div k 2) 1 = j := by show k / 2 - 1 = j; omega
          rw [hj2, hj, ← Nat.mul_assoc, Nat.mul_comm m 2, Nat.mul_add, Nat.mul_one]
          omega
        rwa [e2] at this
/-- For what can be told. -/
def lAll (p : Nat → α → Bool) (m o : Nat) : List (Nat × α) → Bool
  | [] => true
  | q :: l => p (m * q.1 + o) q.2 && lAll p m o l
def Tr.all (p : Nat → α → Bool) : Tr α → Nat → Nat → Bool
  | .lf l, m, o => lAll p m o l
  | .nd v a b, m, o => p o v && a.all p (2 * m) (m + o) && b.all p (2 * m) (2 * m + o)
theorem lAll_ok {p : Nat → α → Bool} {m o : Nat} : ∀ (l : List (Nat × α)), lAll p m o l = true → lOk (fun n x => p n x = true) m o l
  | [], _ => trivial
  | q :: l, h => by
    simp only [lAll, Bool.and_eq_true] at h
    exact ⟨h.1, lAll_ok l h.2⟩
theorem Tr.all_ok {p : Nat → α → Bool} : ∀ (t : Tr α) (m o : Nat), t.all p m o = true → t.ok (fun n x => p n x = true) m o
  | .lf l, m, o, h => lAll_ok l h
  | .nd v a b, m, o, h => by
    simp only [Tr.all, Bool.and_eq_true] at h
    exact ⟨h.1.1, Tr.all_ok a _ _ h.1.2, Tr.all_ok b _ _ h.2⟩
end

/- Types. -/
def natsEq : List (Nat × Nat) → List (Nat × Nat) → Bool
  | [], [] => true
  | x :: xs, y :: ys => Nat.beq x.1 y.1 && Nat.beq x.2 y.2 && natsEq xs ys
  | _, _ => false
theorem natsEq_ok : ∀ (xs ys : List (Nat × Nat)), natsEq xs ys = true → xs = ys
  | [], [], _ => rfl
  | [], _ :: _, h => by cases h
  | _ :: _, [], h => by cases h
  | x :: xs, y :: ys, h => by
    simp only [natsEq, Bool.and_eq_true] at h
    rw [Prod.ext (beqI h.1.1) (beqI h.1.2), natsEq_ok xs ys h.2]
def kdChk (k : TK) (d : TypeDesc) : Bool :=
  match k, d with
  | .oth, _ => true
  | .int k, .int k' => Nat.beq (cdOf k) (cdOf k')
  | .bool, .bool => true
  | .str, .string => true
  | .sl e, .slice e' => Nat.beq e e'
  | .st fs, .struct fl => natsEq (fl.toList.map fun f => (f.offset, f.type)) fs
  | .mp k e, .map k' e' => Nat.beq k k' && Nat.beq e e'
  | _, _ => false
def aggD (d : TypeDesc) : Bool := match d with | .struct _ => true | .array _ _ => true | _ => false
def isAggV (z : Value) : Bool := match z with | .agg _ => true | _ => false
def oneAll : List Value → Bool
  | [] => true
  | v :: vs => v.oneCell' && oneAll vs
def tiChk (P : Program) (t : Nat) (ti : TI) : Bool :=
  !ti.ok || (match P.info? t, P.underlying t with
    | some i, some d => Nat.beq i.size ti.size && Nat.ble i.bytes 4096 && (ti.agg == aggD d) && kdChk ti.kd d && (match i.zero with
      | some z => (match svsOf z.cells.toList with
        | some l => svsEq l ti.zero
        | none => false) && Nat.beq z.cells.size ti.size && oneAll z.cells.toList && (if ti.agg then isAggV z else z.oneCell')
      | none => false)
    | _, _ => false)
theorem cd_inj {k k' : IntKind} (h : cdOf k = cdOf k') : k = k' := by
  have := congrArg kdOf h
  rwa [kd_cd, kd_cd] at this
theorem oneAll_ok : ∀ (vs : List Value), oneAll vs = true → ∀ u, u ∈ vs → u.oneCell' = true
  | [], _, u, hu => by simp at hu
  | v :: vs, h, u, hu => by
    simp only [oneAll, Bool.and_eq_true] at h
    rcases List.mem_cons.1 hu with rfl | hu
    · exact h.1
    · exact oneAll_ok vs h.2 u hu
theorem tiChk_ok {P : Program} {tt : Nat → TI} {t : Nat} (h : tiChk P t (tt t) = true) (hok : (tt t).ok = true) : TIok P tt t := by
  unfold tiChk at h
  rw [hok] at h
  simp only [Bool.not_true, Bool.false_or] at h
  split at h
  · rename_i i d hi hd
    simp only [Bool.and_eq_true] at h
    obtain ⟨⟨⟨⟨h1, h2⟩, h3⟩, h4⟩, h5⟩ := h
    split at h5
    · rename_i z hz
      simp only [Bool.and_eq_true] at h5
      obtain ⟨⟨⟨k1, k2⟩, k3⟩, k4⟩ := h5
      split at k1
      · rename_i l hl
        have hl' := svsEq_ok _ _ k1
        subst hl'
        refine ⟨⟨i, z, hi, beqI h1, hz, hl, beqI k2, bleI h2, oneAll_ok _ k3, fun ha => ?_, fun ha => ?_⟩, d, hd, (by have := eq_of_beq h3; rw [this]; cases d <;> rfl), ?_⟩
        · rw [ha] at k4; simpa using k4
        · rw [ha] at k4
          simp only [if_true] at k4
          unfold isAggV at k4
          split at k4
          · rfl
          · cases k4
        · unfold kdChk at h4
          revert h4
          cases (tt t).kd with
          | oth => intro _; trivial
          | int k => intro h4; cases d <;> simp at h4; exact congrArg _ (cd_inj h4.symm)
          | bool => intro h4; cases d <;> simp at h4; rfl
          | str => intro h4; cases d <;> simp at h4; rfl
          | sl e => intro h4; cases d <;> simp at h4; exact congrArg _ h4.symm
          | st fs => intro h4; cases d <;> simp at h4; exact ⟨_, rfl, natsEq_ok _ _ h4⟩
          | mp k e => intro h4; cases d <;> simp at h4; rw [h4.1, h4.2]
      · cases k1
    · cases h5
  · cases h

end Go.Sy
