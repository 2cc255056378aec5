/-
  Appending, building, strings; calls; and that a region whose operations come in any order ends as its canonical run does, where the operations that need not follow one another do not meet.
-/
import Derived.Test.YteodickkbkdnaaaGreatMetaA
import Derived.Laws.OwnMore
import Derived.Great.BuildSlice
import Derived.Laws.IdiomStrings
import Derived.Laws.Slices
import Derived.Orders
import Derived.Laws.BitsLemmas

namespace Go.Lgo
open Go

/-- An append at an owned row: where its result lies. -/
theorem run_app {P : Program} (w : World) (t ty e : TypeId) (i : TypeInfo) (z : Value) (ht : P.underlying t = some (.slice e)) (hi : P.info? e = some i) (hz : i.zero = some z)
    (hzs : z.cells.size = i.size) (hsz : 0 < i.size) (v : Value) (n : Nat) (xs : List Value) (hown : w.ownsRow 0 e i.size v n xs)
    (a : Addr) (m c : Nat) (news : List Value) (hl : news.length = m * i.size) (hnews : ∀ j u, news[j]? = some u → w.cell? (a.add j) = some u) (h1 : ∀ u ∈ news, u.oneCell' = true)
    (h63 : n + m ≤ maxLen) (hbytes : (n + m) * i.bytes ≤ 140737488355328) :
    ∃ v' w', (Builtin.append_ #[t, t] ty #[v, .slice (some a) m c]).run P w = .ok v' w' ∧ w'.ownsRow 0 e i.size v' (n + m) (xs ++ news) ∧ w.grownBy w' v.ownBlock ∧
      ∀ g, v'.ownBlock = some g → v.ownBlock = some g ∨ w.heap.size ≤ g := by
  obtain ⟨v', w', hr, ho, hg, hiff⟩ := run_append_own (P := P) w 0 t ty e i z i.size i.bytes ht hi hz rfl rfl hzs hsz v n xs hown a m c news hl hnews h1 h63 hbytes (Nat.zero_le _)
  refine ⟨v', w', hr, ho, hg, ?_⟩
  have hsmall : n + m ≤ 9223372036854775807 := by simp only [maxLen] at h63; omega
  rcases hown.2 with ⟨rfl, rfl⟩ | ⟨g, cap, cur, rfl, hbg, hgg, hnc, hcm, hcs, htake⟩
  · have hx : xs = [] := List.eq_nil_of_length_eq_zero (by simpa using hown.1)
    subst hx
    by_cases hm : m = 0
    · have := hiff.2 ⟨rfl, hm⟩
      subst this
      intro g hgq; cases hgq
    · have hr2 := run_append_nil (P := P) w t ty e i z ht hi hz a m c news hl hnews (by omega) (by omega) (by have hb := hbytes; simp only [Nat.zero_add] at hb; omega)
      rw [hr] at hr2
      cases hr2
      intro g hgq
      simp only [Value.ownBlock, Option.some.injEq] at hgq
      exact .inr (by omega)
  · by_cases hroom : n + m ≤ cap
    · obtain ⟨w2, hr2, _⟩ := run_append_fits (P := P) w 0 t ty e i i.size ht hi rfl g n cap xs hown a m c news hl hnews h1 hroom
      rw [hr] at hr2
      cases hr2
      intro g' hgq
      exact .inl hgq
    · have holds : ∀ j u, xs[j]? = some u → w.cell? ((⟨g, 0, none⟩ : Addr).add j) = some u := hown.cells (g := g) rfl
      have hr2 := run_append_grow (P := P) w t ty e i z ht hi hz ⟨g, 0, none⟩ n cap xs hown.1 holds a m c news hl hnews (by omega) (by omega) (growslice_fits (by omega) hbytes)
      rw [hr] at hr2
      cases hr2
      intro g' hgq
      simp only [Value.ownBlock, Option.some.injEq] at hgq
      exact .inr (by omega)

/-- Rows laid one behind the other. -/
def flat (V : Nat → Nat → Value) (m n : Nat) : List Value := (List.range (m * n)).map fun p => V (p / n) (p % n)
theorem flat_length (V : Nat → Nat → Value) (m n : Nat) : (flat V m n).length = m * n := by simp [flat]
theorem flat_get (V : Nat → Nat → Value) {m n i j : Nat} (hi : i < m) (hj : j < n) : (flat V m n)[i * n + j]? = some (V i j) := by
  have hlt : i * n + j < m * n := by
    have := Nat.mul_le_mul_right n (show i + 1 ≤ m by omega)
    rw [Nat.succ_mul] at this; omega
  have h1 : (i * n + j) / n = i := by rw [Nat.mul_comm, Nat.mul_add_div (by omega), Nat.div_eq_of_lt hj, Nat.add_zero]
  have h2 : (i * n + j) % n = j := by rw [Nat.mul_comm, Nat.mul_add_mod, Nat.mod_eq_of_lt hj]
  simp only [flat, List.getElem?_map, List.getElem?_range hlt, Option.map_some, h1, h2]
theorem flat_get' (V : Nat → Nat → Value) {m n p : Nat} {v : Value} (h : (flat V m n)[p]? = some v) : p / n < m ∧ p % n < n ∧ v = V (p / n) (p % n) ∧ p = p / n * n + p % n := by
  have hp := (List.getElem?_eq_some_iff.1 h).1
  rw [flat_length] at hp
  have hn : 0 < n := by rcases Nat.eq_zero_or_pos n with rfl | h; simp at hp; exact h
  simp only [flat, List.getElem?_map, List.getElem?_range hp, Option.map_some, Option.some.injEq] at h
  refine ⟨(Nat.div_lt_iff_lt_mul hn).2 hp, Nat.mod_lt _ hn, h.symm, ?_⟩
  have := Nat.div_add_mod p n
  rw [Nat.mul_comm] at this; omega

theorem rows_append (X Y : Nat → Nat → L) (m m' n : Nat) : rows X m n ++ rows Y m' n = rows (fun i j => if i < m then X i j else Y (i - m) j) (m + m') n := by
  apply List.ext_getElem?
  intro i
  by_cases h1 : i < m
  · rw [List.getElem?_append_left (by rw [rows_length]; exact h1), rows_get h1, rows_get (by omega)]
    congr 1
    apply List.map_congr_left
    intro c _
    rw [if_pos h1]
  · rw [List.getElem?_append_right (by rw [rows_length]; omega), rows_length]
    by_cases h2 : i < m + m'
    · rw [rows_get (by omega), rows_get h2]
      congr 1
      apply List.map_congr_left
      intro c _
      rw [if_neg h1]
    · rw [List.getElem?_eq_none (by rw [rows_length]; omega), List.getElem?_eq_none (by rw [rows_length]; omega)]

theorem rd_oc_of {tl : TL} {w : World} {F : BSet} {τ : Leaf} {v : Value} {x : L} (h : Rd tl w F τ v x) : v.oneCell' = true := h.oc

/-- The children of what an append leaves: published all. -/
def dsApp (m : Nat) : Nat → List Dsc → List Dsc
  | 0, _ => []
  | k + 1, ds => .pub ((ds.headD (.pub 0)).mask ||| m) :: dsApp m k ds.tail
theorem dsApp_get (m k : Nat) (ds : List Dsc) (j : Nat) (hj : j < k) : ∃ M, (dsApp m k ds).getD j (.pub 0) = .pub M ∧ maskSub m M = true := by
  induction k generalizing ds j with
  | zero => omega
  | succ k ih =>
    cases j with
    | zero => exact ⟨_, rfl, maskSub_or_right (maskSub_refl _)⟩
    | succ j =>
      obtain ⟨M, h1, h2⟩ := ih ds.tail j (by omega)
      exact ⟨M, by simpa [dsApp] using h1, h2⟩

theorem Own.unpub {tl : TL} {w : World} {FP : Nat → BSet} {τ : Leaf} {m : Nat} {v : Value} {x : L} {O : BSet} (h : Own tl w FP τ (.pub m) v x O) : Rd tl w (FP m) τ v x ∧ ∀ c, ¬ O c := by
  cases h with
  | pub h1 h2 => exact ⟨h1, h2⟩

/-- **The machine's side of an append**: all rows published below. -/
theorem app_own {Γ : Ctx} (hT : TTOK Γ.P Γ.tt) {w : World} {FPx : Nat → BSet} {xT ty e : TypeId} (hu : Γ.P.underlying xT = some (.slice e)) (hok : (Γ.tt e).ok = true) {v y : Value} {xs ys : List Row} {ds : List Dsc} {O : BSet} {m : Nat}
    (hg : Grows FPx) (hv : Own Γ.tl w FPx (.sl e) (.own (dsApp m (Γ.tl e).length ds)) v (.l xs) O) (hy : Rd Γ.tl w (FPx m) (.sl e) y (.l ys)) (hOF : ∀ c m, O c → ¬ FPx m c) (hlen : xs.length + ys.length ≤ maxRows) :
    ∃ v' w', (Builtin.append_ #[xT, xT] ty #[v, y]).run Γ.P w = .ok v' w' ∧ w.grownBy w' v.ownBlock ∧ (∀ g, v.ownBlock = some g → O g) ∧
      ∃ O' : BSet, (∀ c, O' c → O c ∨ w.heap.size ≤ c) ∧ (∀ c c', O' c → O' c' → c = c') ∧ v'.oneCell' = true ∧
        Own Γ.tl w' (fun m c => FPx m c ∧ c < w.heap.size) (.sl e) (.own (dsApp m (Γ.tl e).length ds)) v' (.l (xs ++ ys)) O' := by
  obtain ⟨i, z, k1, k2, k3, k4, k5, k6, k7⟩ := (hT e hok).info
  have hsz : i.size = (Γ.tl e).length := k2
  have hzs : z.cells.size = i.size := by rw [← Array.length_toList, k4, List.length_map, k2]
  have hm63 : maxRows ≤ maxLen := by decide
  cases hv with
  | nil hO =>
    cases hy with
    | nil =>
      refine ⟨.slice none 0 0, w, run_append_owned_none (P := Γ.P) w 0 xT ty e i i.size hu k1 _ 0 [] (World.ownsRow_nil w 0 e i.size), ⟨rfl, rfl, rfl, Nat.le_refl _, fun _ _ _ => rfl⟩, (by rintro g hg; cases hg), O, fun c hc => .inl hc, fun c _ hc => absurd hc (hO c), rfl, .nil hO⟩
    | @sl _ b off len cap cs e' fr Vy Xy hF hb hlc hcap hcc hr =>
      rw [List.length_nil, Nat.zero_add, rows_length] at hlen
      obtain ⟨v', w', r1, r2, r3, r4⟩ := run_app (P := Γ.P) w xT ty e i z hu k1 k3 hzs (by omega) (.slice none 0 0) 0 [] (World.ownsRow_nil w 0 e i.size) ⟨b, off, none⟩ len cap (flat Vy len (Γ.tl e).length) (by rw [flat_length, hsz])
        (by
          intro p u hp
          obtain ⟨p1, p2, p3, p4⟩ := flat_get' Vy hp
          show w.cell? _ = _
          have : (⟨b, off, none⟩ : Addr).add p = ⟨b, off + p, none⟩ := by simp [Addr.add]
          rw [this, cell_of_row w b (off + p) cs e' fr hb, p4, ← Nat.add_assoc, hcc _ _ p1 p2, p3])
        (by
          intro u hu'
          obtain ⟨p, hp⟩ := List.getElem?_of_mem hu'
          obtain ⟨p1, p2, p3, p4⟩ := flat_get' Vy hp
          rw [p3]
          exact (hr _ _ _ p1 (List.getElem?_eq_getElem p2)).oc)
        (by simp only [Nat.zero_add]; omega) (by
          simp only [Nat.zero_add]
          have : len * i.bytes ≤ maxRows * 4096 := Nat.mul_le_mul hlen k5
          unfold maxRows at this; omega)
      rw [Nat.zero_add, List.nil_append] at r2
      refine ⟨v', w', r1, r3, (by rintro g hg; cases hg), ?_⟩
      rcases r2.2 with ⟨rfl, rfl⟩ | ⟨g, cap', cur, rfl, _, hg', hnc, hcm, hcs, htake⟩
      · exact ⟨fun _ => False, fun c hc => hc.elim, fun c _ hc => hc.elim, rfl, .nil fun _ hc => hc⟩
      · have hgn : w.heap.size ≤ g := (r4 g rfl).resolve_left (by rintro h; cases h)
        refine ⟨fun c => c = g, fun c hc => .inr (by omega), fun c c' h1 h2 => by omega, rfl, ?_⟩
        rw [List.nil_append]
        refine .sl Vy Xy (fun _ _ _ => False) hg' (by rw [hcs, hsz]) hnc hcm ?_ ?_ (fun _ _ _ _ _ _ _ _ _ h => h.elim) (fun _ _ _ _ h => h) fun c => ⟨.inl, fun h => h.resolve_right (by rintro ⟨_, _, _, _, h⟩; exact h)⟩
        · intro i' j hi' hj
          have hlt : i' * (Γ.tl e).length + j < len * (Γ.tl e).length := by
            have := Nat.mul_le_mul_right (Γ.tl e).length (show i' + 1 ≤ len by omega)
            rw [Nat.succ_mul] at this; omega
          have h2 := congrArg (fun l => l[i' * (Γ.tl e).length + j]?) htake
          simp only [flat_get Vy hi' hj, hsz] at h2
          rw [List.getElem?_take, if_pos hlt, Array.getElem?_toList] at h2
          exact h2
        · intro i' j τ hi' hτ
          obtain ⟨M, hM, hmM⟩ := dsApp_get m (Γ.tl e).length ds j (List.getElem?_eq_some_iff.1 hτ).1
          rw [hM]
          refine .pub ((hr i' j τ hi' hτ).mono fun c o hc ho => ?_) fun _ h => h
          have hcl := (Array.getElem?_eq_some_iff.1 ho).1
          refine ⟨by rw [r3.block c hcl (by simp [Value.ownBlock])]; exact ho, hg _ _ _ hmM hc, hcl⟩
  | @sl _ _ b len cap cs O Vf Xf G hb hs hlc hcap hcc hr hdd hbG hO =>
    have hGe : ∀ i' j c, i' < len → j < (Γ.tl e).length → ¬ G i' j c := by
      intro i' j c hi' hj hc
      obtain ⟨M, hM, _⟩ := dsApp_get m (Γ.tl e).length ds j hj
      have := hr i' j _ hi' (List.getElem?_eq_getElem hj)
      rw [hM] at this
      exact this.unpub.2 c hc
    have hbO : O b := (hO b).2 (.inl rfl)
    have hOb : ∀ c, O c → c = b := by
      intro c hc
      rcases (hO c).1 hc with h | ⟨i', j, hi', hj, h⟩
      · exact h
      · exact absurd h (hGe i' j c hi' hj)
    have htk : cs.toList.take (len * i.size) = flat Vf len (Γ.tl e).length := by
      apply List.ext_getElem?
      intro p
      rw [hsz, List.getElem?_take]
      by_cases hp : p < len * (Γ.tl e).length
      · rw [if_pos hp]
        have hn : 0 < (Γ.tl e).length := by omega
        have e1 : p / (Γ.tl e).length < len := (Nat.div_lt_iff_lt_mul hn).2 hp
        have e2 : p % (Γ.tl e).length < (Γ.tl e).length := Nat.mod_lt _ hn
        have e3 : p / (Γ.tl e).length * (Γ.tl e).length + p % (Γ.tl e).length = p := by have := Nat.div_add_mod p (Γ.tl e).length; rw [Nat.mul_comm] at this; exact this
        have h1 := hcc _ _ e1 e2
        have h2 := flat_get Vf e1 e2
        rw [e3] at h1 h2
        rw [Array.getElem?_toList, h1, h2]
      · rw [if_neg hp, List.getElem?_eq_none (by rw [flat_length]; omega)]
    have hrow : w.ownsRow 0 e i.size (.slice (some ⟨b, 0, none⟩) len cap) len (flat Vf len (Γ.tl e).length) :=
      ⟨by rw [flat_length, hsz], .inr ⟨b, cap, cs, rfl, Nat.zero_le _, hb, hlc, hcap, by rw [hs, hsz], htk⟩⟩
    cases hy with
    | nil =>
      refine ⟨_, w, run_append_owned_none (P := Γ.P) w 0 xT ty e i i.size hu k1 _ _ _ hrow, ⟨rfl, rfl, rfl, Nat.le_refl _, fun _ _ _ => rfl⟩, (by rintro g hg; cases hg; exact hbO), O, fun c hc => .inl hc, fun c c' h1 h2 => by rw [hOb c h1, hOb c' h2], rfl, ?_⟩
      rw [List.append_nil]
      refine .sl Vf Xf G hb hs hlc hcap hcc (fun i' j τ hi' hτ => ?_) hdd hbG hO
      refine (hr i' j τ hi' hτ).mono (fun m' c o hc ho => ⟨ho, hc, (Array.getElem?_eq_some_iff.1 ho).1⟩) fun c o _ ho => ho
    | @sl _ b2 off len2 cap2 cs2 e' fr Vy Xy hF hb2 hlc2 hcap2 hcc2 hr2 =>
      rw [rows_length, rows_length] at hlen
      obtain ⟨v', w', r1, r2, r3, r4⟩ := run_app (P := Γ.P) w xT ty e i z hu k1 k3 hzs (by omega) _ len _ hrow ⟨b2, off, none⟩ len2 cap2 (flat Vy len2 (Γ.tl e).length) (by rw [flat_length, hsz])
        (by
          intro p u hp
          obtain ⟨p1, p2, p3, p4⟩ := flat_get' Vy hp
          show w.cell? _ = _
          have : (⟨b2, off, none⟩ : Addr).add p = ⟨b2, off + p, none⟩ := by simp [Addr.add]
          rw [this, cell_of_row w b2 (off + p) cs2 e' fr hb2, p4, ← Nat.add_assoc, hcc2 _ _ p1 p2, p3])
        (by
          intro u hu'
          obtain ⟨p, hp⟩ := List.getElem?_of_mem hu'
          obtain ⟨p1, p2, p3, p4⟩ := flat_get' Vy hp
          rw [p3]
          exact (hr2 _ _ _ p1 (List.getElem?_eq_getElem p2)).oc)
        (by omega) (by
          have : (len + len2) * i.bytes ≤ maxRows * 4096 := Nat.mul_le_mul hlen k5
          unfold maxRows at this; omega)
      refine ⟨v', w', r1, r3, (by rintro g hg; cases hg; exact hbO), ?_⟩
      rcases r2.2 with ⟨rfl, h0⟩ | ⟨g, cap', cur, rfl, _, hg', hnc, hcm, hcs, htake⟩
      · have h1 : len = 0 := by omega
        have h2 : len2 = 0 := by omega
        subst h1 h2
        exact ⟨fun _ => False, fun c hc => hc.elim, fun c _ hc => hc.elim, rfl, .nil fun _ hc => hc⟩
      · have hgn : O g ∨ w.heap.size ≤ g := (r4 g rfl).imp (by rintro h; cases h; exact hbO) id
        refine ⟨fun c => c = g, fun c hc => by subst hc; exact hgn, fun c c' h1 h2 => by omega, rfl, ?_⟩
        rw [rows_append]
        refine .sl (fun i' j => if i' < len then Vf i' j else Vy (i' - len) j) _ (fun _ _ _ => False) hg' (by rw [hcs, hsz]) hnc hcm ?_ ?_ (fun _ _ _ _ _ _ _ _ _ h => h.elim) (fun _ _ _ _ h => h) fun c => ⟨.inl, fun h => h.resolve_right (by rintro ⟨_, _, _, _, h⟩; exact h)⟩
        · intro i' j hi' hj
          have hlt : i' * (Γ.tl e).length + j < (len + len2) * (Γ.tl e).length := by
            have := Nat.mul_le_mul_right (Γ.tl e).length (show i' + 1 ≤ len + len2 by omega)
            rw [Nat.succ_mul] at this; omega
          have h2 := congrArg (fun l => l[i' * (Γ.tl e).length + j]?) htake
          simp only [hsz] at h2
          rw [List.getElem?_take, if_pos hlt, Array.getElem?_toList] at h2
          rw [h2]
          by_cases hil : i' < len
          · have hlt2 : i' * (Γ.tl e).length + j < len * (Γ.tl e).length := by
              have := Nat.mul_le_mul_right (Γ.tl e).length (show i' + 1 ≤ len by omega)
              rw [Nat.succ_mul] at this; omega
            rw [List.getElem?_append_left (by rw [flat_length]; exact hlt2), flat_get Vf hil hj, if_pos hil]
          · have hge2 : len * (Γ.tl e).length ≤ i' * (Γ.tl e).length := Nat.mul_le_mul_right _ (by omega)
            rw [List.getElem?_append_right (by rw [flat_length]; omega), flat_length, if_neg hil]
            have : i' * (Γ.tl e).length + j - len * (Γ.tl e).length = (i' - len) * (Γ.tl e).length + j := by rw [Nat.sub_mul]; omega
            rw [this, flat_get Vy (by omega) hj]
        · intro i' j τ hi' hτ
          obtain ⟨M, hM, hmM⟩ := dsApp_get m (Γ.tl e).length ds j (List.getElem?_eq_some_iff.1 hτ).1
          rw [hM]
          have hstay : ∀ m' c o, FPx m' c → w.heap[c]? = some o → w'.heap[c]? = some o ∧ c < w.heap.size := by
            intro m' c o hc ho
            have hcl := (Array.getElem?_eq_some_iff.1 ho).1
            exact ⟨by rw [r3.block c hcl (by intro h; cases h; exact hOF _ _ hbO hc)]; exact ho, hcl⟩
          by_cases hil : i' < len
          · simp only [hil, if_true]
            have h0 := hr i' j τ hil hτ
            rw [hM] at h0
            exact .pub (h0.unpub.1.mono fun c o hc ho => ⟨(hstay _ c o hc ho).1, hc, (hstay _ c o hc ho).2⟩) fun _ h => h
          · simp only [hil, if_false]
            refine .pub ((hr2 (i' - len) j τ (by omega) hτ).mono fun c o hc ho => ⟨(hstay _ c o hc ho).1, hg _ _ _ hmM hc, (hstay _ c o hc ho).2⟩) fun _ h => h

end Go.Lgo

namespace Go.Lgo
open Go

/-- What an append writes onto: an owned leaf, or nothing. -/
inductive AR where
  | own (s j : Nat) (ds : List Dsc)
  | nil
def appRoot (tt : TypeId → TI) (E : SE) (e : TypeId) : Operand → Option (AR × Opd)
  | .tmp t => match slcRS tt E (.tmp t) with
    | some (e', s, .own s' j ds _ _) => if e = e' then some (.own s' j ds, .v s 0 1) else none
    | _ => none
  | .const (.slice none 0 0) => some (.nil, .k [.l []])
  | _ => none

def trAppend (tt : TypeId → TI) (N : Nat) (E : SE) (t : Nat) (ty xT : TypeId) (x y : Operand) : TR :=
  match one tt xT with
  | some (.sl e) =>
    if t < N ∧ (tt e).ok = true ∧ one tt ty = some (.sl e) then
      match rdRow tt E [.sl e] false y with
      | some (E1, [m], oy) =>
        match appRoot tt E1 e x with
        | some (.own s j ds, ox) =>
          let ds' := dsApp m (tt e).lv.length ds
          if Dsc.leAll ds ds' = true then
            let E2 := E1.put s ⟨(E1.get s).ver, (E1.get s).k.setLds ((E1.get s).lds.set j .dead)⟩
            some (setVal E2 t [ty] false [.own ds'], .op (2 * t) .app [ox, oy])
          else none
        | some (.nil, ox) => some (setVal E1 t [ty] false [.own (dsApp m (tt e).lv.length [])], .op (2 * t) .app [ox, oy])
        | none => none
      | _ => none
    else none
  | _ => none

section
variable {Γ : Ctx} {S : BSet} {E : SE} {ρ : Env} {a : Act} {w w' : World} {V : Nat → List Value} {O : Nat → Nat → BSet} {B : Nat → Nat}

theorem app_run {xs ys : List Row} {r : Row} (h : Prim.app.run [[.l xs], [.l ys]] = some r) : xs.length + ys.length ≤ maxRows ∧ r = [.l (xs ++ ys)] := by
  have h : (if xs.length + ys.length ≤ maxRows then some [L.l (xs ++ ys)] else none) = some r := h
  by_cases h1 : xs.length + ys.length ≤ maxRows
  · rw [if_pos h1] at h; exact ⟨h1, (Option.some.inj h).symm⟩
  · rw [if_neg h1] at h; cases h
theorem appRoot_own {tt : TypeId → TI} {E : SE} {e : TypeId} {x : Operand} {ox : Opd} {s j : Nat} {ds : List Dsc} (h : appRoot tt E e x = some (.own s j ds, ox)) : ∃ t, x = .tmp t := by
  unfold appRoot at h
  split at h
  · exact ⟨_, rfl⟩
  · cases h
  · cases h
theorem appRoot_nil {tt : TypeId → TI} {E : SE} {e : TypeId} {x : Operand} {ox : Opd} (h : appRoot tt E e x = some (.nil, ox)) : x = .const (.slice none 0 0) ∧ ox = .k [.l []] := by
  unfold appRoot at h
  split at h
  · split at h
    · split at h <;> cases h
    · cases h
  · cases h; exact ⟨rfl, rfl⟩
  · cases h

theorem packs_one {tt : TypeId → TI} {ty : TypeId} {τ : Leaf} (h : one tt ty = some τ) (v : Value) : packs tt [ty] false [v] = v := by
  obtain ⟨_, h2, h3⟩ := one_spec h
  simp [packs, packL, pack1, h2, h3]

theorem InvG.appStep (hT : TTOK Γ.P Γ.tt) (h : InvG Γ S E.get ρ a w V O B) {t : Nat} (ht : t < Γ.N) {xT ty e : TypeId} (hu : Γ.P.underlying xT = some (.slice e)) (hok : (Γ.tt e).ok = true) (hoty : one Γ.tt ty = some (.sl e))
    {v y : Value} {xs ys : List Row} {ds : List Dsc} {O1 : BSet} {m : Nat} (hv : Own Γ.tl w (Γ.FP (XS S E.get O B)) (.sl e) (.own (dsApp m (Γ.tl e).length ds)) v (.l xs) O1) (hS : ∀ c, S c ↔ O1 c) (hf : ∀ c, S c → Γ.fresh c)
    (hy : Rd Γ.tl w (Γ.FP (XS S E.get O B) m) (.sl e) y (.l ys)) (hlen : xs.length + ys.length ≤ maxRows) :
    ∃ v' w', (Builtin.append_ #[xT, xT] ty #[v, y]).run Γ.P w = .ok v' w' ∧ Inv' Γ (Lgo.setVal E t [ty] false [.own (dsApp m (Γ.tl e).length ds)]) (upd ρ (2 * t) [.l (xs ++ ys)]) (a.put (some t) v') w' := by
  obtain ⟨v', w', r1, r2, r3, O', r4, r5, r6, r7⟩ := app_own (ty := ty) hT hu hok (Γ.grows _) hv hy (fun c m hc hx => hx.1 (.inl ((hS c).2 hc))) hlen
  refine ⟨v', w', r1, ?_⟩
  have hts := h.tsz
  have h1 := h.setTmp (S' := none') (w' := w') t [ty] false [.own (dsApp m (Γ.tl e).length ds)] [v'] [.l (xs ++ ys)] (fun j c => j = 0 ∧ O' c) none' r2.os r2.tape r2.output r2.size
    (fun c o ho hc => by
      have hcl := (Array.getElem?_eq_some_iff.1 ho).1
      rw [r2.block c hcl (fun hh => hc ((hS c).2 (r3 c hh.symm)))]; exact ho)
    (fun c hc => hc.elim) (fun j c hc => (r4 c hc.2).imp (hS c).2 id) (fun c hc => hc.elim) (fun j j' c h1 h2 => by rw [h1.1, h2.1]) (fun c j hc => hc.elim)
    (fun j c hc => (r4 c hc.2).elim (fun h1 => hf c ((hS c).2 h1)) fun h1 => .inl (Nat.le_trans h.size h1)) (fun c hc => hc.elim) (fun j c hc => ⟨dsApp m (Γ.tl e).length ds, by obtain ⟨rfl, _⟩ := hc; rfl⟩)
    (by intro u hu'; simp only [List.mem_singleton] at hu'; rw [hu']; exact r6) (by omega) rfl rfl (by obtain ⟨_, _, g⟩ := one_spec hoty; simp [g])
    (by
      intro j nl τ u x k1 k2 k3 k4
      cases j with
      | succ j => simp at k1
      | zero =>
        simp only [List.getElem?_cons_zero, Option.some.injEq] at k1 k3 k4
        obtain ⟨_, _, g⟩ := one_spec hoty
        simp [g] at k2
        subst k1 k2 k3 k4
        have hOe : (fun c => (0 : Nat) = 0 ∧ O' c) = O' := by funext c; simp
        show Own _ _ _ _ _ _ _ (fun c => (0 : Nat) = 0 ∧ O' c)
        rw [hOe]
        exact r7.mono (fun m c o hc ho => ⟨ho, .inl hc⟩) fun c o _ ho => ho)
  rw [packs_one hoty] at h1
  exact ⟨_, _, _, by unfold Lgo.setVal; rw [SE.get_put]; exact h1⟩

end

section
variable {Γ : Ctx} {E : SE}

theorem trAppend_snd (hT : TTOK Γ.P Γ.tt) (o : Oper) {t : Nat} {xT : TypeId} {x y : Operand} (hd : o.dst = some t) (ho : o.op = .call { callee := .builtin .append, args := #[x, y], argTypes := #[xT, xT] }) {E' : SE} {c : Cmd}
    (htr : trAppend Γ.tt Γ.N E t o.type xT x y = some (E', c)) : Snd Γ E o E' c := by
  intro F n ρ ρ' a w hinv hden
  unfold trAppend at htr
  split at htr
  · rename_i e hxT
    split at htr
    · rename_i hc
      obtain ⟨ht, hok, hoty⟩ := hc
      split at htr
      · rename_i E1 m oy hy
        have hu := hT.one hxT
        simp only [leafIs] at hu
        obtain ⟨V, O, B, hI0⟩ := hinv
        obtain ⟨O1, hI, us, e1, e2, e3, e4, e5, e6⟩ := rdRow_ok hI0 hy
        obtain ⟨yv, rfl⟩ := List.length_eq_one_iff.1 e2
        simp only [Bool.false_eq_true, if_false, List.headD_cons] at e1
        obtain ⟨yl, hyl⟩ := List.length_eq_one_iff.1 e4
        have hyr := e6 0 m (.sl e) yv yl rfl rfl rfl (by rw [hyl]; rfl)
        obtain ⟨ys, rfl⟩ : ∃ ys, yl = .l ys := by cases hyr <;> exact ⟨_, rfl⟩
        split at htr
        · rename_i s j ds ox hx
          dsimp only at htr
          split at htr
          · rename_i hle
            cases htr
            obtain ⟨r, g1, rfl⟩ := den_op hden
            cases x with
            | tmp tx =>
              simp only [appRoot] at hx
              split at hx
              · rename_i e' sx s' j' ds0 id cid hs
                split at hx
                · rename_i hee
                  subst hee
                  cases hx
                  simp only [slcRS] at hs
                  split at hs
                  · rename_i ty' ld he
                    split at hs
                    · rename_i e0 ho1
                      simp only [Option.map_eq_some_iff, Prod.mk.injEq] at hs
                      obtain ⟨rs, hres, rfl, rfl, rfl⟩ := hs
                      obtain ⟨v, l, ld', h1, h2, h3, h4, h5, _⟩ := hI.val1 he ho1
                      cases h1
                      obtain ⟨_, _, g3⟩ := one_spec ho1
                      have hl0 : (E1.get (2 * tx)).lds[0]? = some ld := by simp [Ent.lds, he, EK.lds]
                      have hτ0 : ((E1.get (2 * tx)).k.lv Γ.tt)[0]? = some (.sl e0) := by simp [he, EK.lv, g3]
                      have hrow : (Opd.v (2 * tx) 0 1).get ρ = [l] := by simp [Opd.get, h3]
                      have hroot : (E1.get s).lds[j]? = some (.own ds id cid) ∧ (V s)[j]? = some v ∧ (ρ s)[j]? = some l ∧ ((E1.get s).k.lv Γ.tt)[j]? = some (.sl e0) := by
                        cases ld with
                        | own ds' id' cid' => cases hres; exact ⟨hl0, by rw [h2]; rfl, by rw [h3]; rfl, hτ0⟩
                        | pub m cid' => cases hres
                        | dead => cases hres
                        | alias s1 j1 cid1 =>
                          simp only [resLd] at hres
                          split at hres
                          · rename_i ds' id' cid' hl'
                            split at hres
                            · rename_i hcc; subst hcc; cases hres
                              obtain ⟨k1, k2, k3⟩ := h5 (.inl ⟨_, _, hl'⟩)
                              exact ⟨hl', k1, k2, k3⟩
                            · cases hres
                          · split at hres <;> cases hres
                          · cases hres
                      obtain ⟨r1, r2, r2', r3⟩ := hroot
                      have hj := (List.getElem?_eq_some_iff.1 r1).1
                      have hh := EK.holds_of_lt hj
                      obtain ⟨O2, hI2, hsub⟩ := hI.less' r1 hle
                      obtain ⟨E2, hE2⟩ : ∃ E2 : SS, E2 = SS.setLd E1.get s j (.own (dsApp m (Γ.tt e0).lv.length ds) id cid) := ⟨_, rfl⟩
                      rw [← hE2] at hI2
                      have hk2 : (E2 s).k = (E1.get s).k.setLds ((E1.get s).lds.set j (.own (dsApp m (Γ.tt e0).lv.length ds) id cid)) := by rw [hE2]; unfold SS.setLd; rw [upd_same]
                      have hv2 : (E2 s).ver = (E1.get s).ver := by rw [hE2]; unfold SS.setLd; rw [upd_same]
                      have hlds2 : (E2 s).lds = (E1.get s).lds.set j (.own (dsApp m (Γ.tt e0).lv.length ds) id cid) := by
                        show (E2 s).k.lds = _
                        rw [hk2, EK.setLds_lds _ hh]
                      have hl2 : (E2 s).lds[j]? = some (.own (dsApp m (Γ.tt e0).lv.length ds) id cid) := by rw [hlds2, List.getElem?_set_self hj]
                      have hlv2 : (E2 s).k.lv Γ.tt = (E1.get s).k.lv Γ.tt := by rw [hk2]; exact EK.setLds_lv _ _
                      have hh2 := EK.holds_of_lt (List.getElem?_eq_some_iff.1 hl2).1
                      have hX2 : ∀ c, XS none' E2 O2 B c → XS none' E1.get O1 B c := by
                        rintro c (hs | ⟨k', j', hc⟩ | ⟨k', id', hc, h2⟩)
                        · exact .inl hs
                        · exact .inr (.inl ⟨_, _, hsub _ _ _ hc⟩)
                        · refine .inr (.inr ⟨k', id', ?_, h2⟩)
                          by_cases hkk : k' = s
                          · subst hkk; rw [hk2] at hc; exact (EK.setLds_box _ _).1 hc
                          · rw [hE2, SS.setLd_other _ hkk] at hc; exact hc
                      have hown : Own Γ.tl w (Γ.FP (XS none' E2 O2 B)) (.sl e0) (.own (dsApp m (Γ.tt e0).lv.length ds)) v l (O2 s j) := (hI2.slot s).leaf j _ _ _ _ hl2 (by rw [hlv2]; exact r3) r2 r2'
                      obtain ⟨xs, rfl⟩ : ∃ xs, l = .l xs := by cases hown <;> exact ⟨_, rfl⟩
                      have hI3 := hI2.take hl2
                      have hE3 : (E1.put s ⟨(E1.get s).ver, (E1.get s).k.setLds ((E1.get s).lds.set j .dead)⟩).get = SS.setLd E2 s j .dead := by
                        unfold SS.setLd
                        rw [SE.get_put, hlds2, hk2, hv2, setLds_setLds, List.set_set, hE2]
                        funext k'
                        by_cases hkk : k' = s
                        · subst hkk; rw [upd_same, upd_same]
                        · rw [upd_ne _ _ hkk, upd_ne _ _ hkk, SS.setLd_other _ hkk]
                      rw [← hE3] at hI3
                      have hXs : ∀ c, XS (fun c => none' c ∨ O2 s j c) (E1.put s ⟨(E1.get s).ver, (E1.get s).k.setLds ((E1.get s).lds.set j .dead)⟩).get (minus O2 s j) B c → XS none' E2 O2 B c := by
                        intro c hc
                        rw [hE3] at hc
                        exact XS_mono_take hh2 hc
                      rw [List.map_cons, List.map_cons, List.map_nil, hrow, hyl] at g1
                      obtain ⟨hlen, rfl⟩ := app_run g1
                      obtain ⟨v', w', q1, q2⟩ := hI3.appStep hT ht (ty := o.type) hu hok hoty (v := v) (y := yv) (xs := xs) (ys := ys) (ds := ds) (O1 := O2 s j) (m := m)
                        (hown.mono (fun m c o hc ho => ⟨ho, Ctx.FP_mono hXs hc⟩) fun c o _ ho => ho) (fun c => ⟨fun h => h.resolve_left (fun h => h), .inr⟩)
                        (fun c hc => (hI2.slot s).fresh j c (hc.resolve_left fun h => h)) (hyr.mono fun c o hc ho => ⟨ho, Ctx.FP_mono (fun c hc => hX2 c (hXs c hc)) hc⟩) hlen
                      refine .inl ⟨v', w', ?_, by rw [hd]; exact q2⟩
                      simp only [execOp, ho, resolve, invoke, builtin, Sem.run_bind, Sem.run_pure, Result.andThen_ok, List.map_toArray, List.map_cons, List.map_nil, h4, e1, q1]
                    · cases hs
                  · cases hs
                · cases hx
              · cases hx
            | const v => obtain ⟨_, h⟩ := appRoot_own hx; cases h
            | global g => cases hx
            | func f => cases hx
          · cases htr
        · rename_i ox hx
          cases htr
          obtain ⟨r, g1, rfl⟩ := den_op hden
          obtain ⟨rfl, rfl⟩ := appRoot_nil hx
          have hxe : a.eval (.const (.slice none 0 0)) = .slice none 0 0 := rfl
          have hox : (Opd.k [.l []]).get ρ = [.l []] := rfl
          rw [List.map_cons, List.map_cons, List.map_nil, hox, hyl] at g1
          obtain ⟨hlen, rfl⟩ := app_run g1
          obtain ⟨v', w', q1, q2⟩ := hI.appStep hT ht (ty := o.type) hu hok hoty (v := .slice none 0 0) (y := yv) (xs := []) (ys := ys) (ds := []) (O1 := fun _ => False) (m := m) (.nil fun _ h => h) (fun c => Iff.rfl) (fun c hc => hc.elim) hyr hlen
          refine .inl ⟨v', w', ?_, by rw [hd]; exact q2⟩
          simp only [execOp, ho, resolve, invoke, builtin, Sem.run_bind, Sem.run_pure, Result.andThen_ok, List.map_toArray, List.map_cons, List.map_nil, hxe, e1, q1]
        · cases htr
      · cases htr
    · cases htr
  · cases htr

end

end Go.Lgo

namespace Go.Lgo
open Go

def orAll : List Nat → Nat
  | [] => 0
  | m :: ms => m ||| orAll ms
theorem orAll_sub {ms : List Nat} {j m : Nat} (h : ms[j]? = some m) : maskSub m (orAll ms) = true := by
  induction ms generalizing j with
  | nil => simp at h
  | cons a ms ih =>
    cases j with
    | zero => simp only [List.getElem?_cons_zero, Option.some.injEq] at h; subst h; exact maskSub_or_left (maskSub_refl _)
    | succ j => exact maskSub_or_right (ih (by simpa using h))

/-- Row operands, published, one behind the other. -/
def rdParts (tt : TypeId → TI) (lv : List Leaf) (agg : Bool) : SE → List Operand → Option (SE × Nat × List Opd)
  | E, [] => some (E, 0, [])
  | E, x :: xs => match rdRow tt E lv agg x with
    | some (E1, ms, od) => match rdParts tt lv agg E1 xs with
      | some (E2, M, ods) => some (E2, orAll ms ||| M, od :: ods)
      | none => none
    | none => none

theorem Ctx.FP_le {Γ : Ctx} {X X' : BSet} (h : ∀ c, X' c → X c) {m m' c : Nat} (hm : maskSub m m' = true) (hc : Γ.FP X m c) : Γ.FP X' m' c := Γ.grows _ _ _ _ hm (Ctx.FP_mono h hc)

section
variable {Γ : Ctx} {S : BSet} {E : SE} {ρ : Env} {a : Act} {w w' : World} {V : Nat → List Value} {O : Nat → Nat → BSet} {B : Nat → Nat}

theorem rdParts_ok {lv : List Leaf} {agg : Bool} {xs : List Operand} (h : InvG Γ S E.get ρ a w V O B) {E1 : SE} {M : Nat} {ods : List Opd} (hx : rdParts Γ.tt lv agg E xs = some (E1, M, ods)) :
    ∃ O1, InvG Γ S E1.get ρ a w V O1 B ∧ (∀ c, XS S E1.get O1 B c → XS S E.get O B c) ∧ ods.length = xs.length ∧
      ∀ i : Nat, i < xs.length → ∃ (vs : List Value) (od : Opd) (x : Operand), xs[i]? = some x ∧ ods[i]? = some od ∧ (a.eval x = if agg then .agg vs.toArray else vs.headD undef) ∧ vs.length = lv.length ∧ (od.get ρ).length = lv.length ∧ (∀ v, v ∈ vs → v.oneCell' = true) ∧
        ∀ (j : Nat) τ v y, lv[j]? = some τ → vs[j]? = some v → (od.get ρ)[j]? = some y → Rd Γ.tl w (Γ.FP (XS S E1.get O1 B) M) τ v y := by
  induction xs generalizing E O E1 M ods with
  | nil =>
    simp only [rdParts, Option.some.injEq, Prod.mk.injEq] at hx
    obtain ⟨rfl, rfl, rfl⟩ := hx
    exact ⟨O, h, fun c hc => hc, rfl, fun i hi => by simp at hi⟩
  | cons x xs ih =>
    simp only [rdParts] at hx
    split at hx
    · rename_i E2 ms od hr
      split at hx
      · rename_i E3 M' ods' hp
        cases hx
        obtain ⟨O2, h2, s2, vs, e1, e2, e3, e4, e5, e6⟩ := rdRow_ok' h hr
        obtain ⟨O3, h3, s3, l3, g3⟩ := ih h2 hp
        refine ⟨O3, h3, fun c hc => s2 c (s3 c hc), by simp [l3], ?_⟩
        intro i hi
        cases i with
        | zero =>
          refine ⟨vs, od, x, rfl, rfl, e1, e2, e4, e5, fun j τ v y k1 k2 k3 => ?_⟩
          have hj := (List.getElem?_eq_some_iff.1 k1).1
          have hm : ms[j]? = some (ms[j]'(by omega)) := List.getElem?_eq_getElem (by omega)
          exact (e6 j _ τ v y hm k1 k2 k3).mono fun c o hc ho => ⟨ho, Ctx.FP_le s3 (maskSub_or_left (orAll_sub hm)) hc⟩
        | succ i =>
          obtain ⟨vs', od', x', f1, f2, f3, f4, f5, f6, f7⟩ := g3 i (by simpa using hi)
          refine ⟨vs', od', x', by simpa using f1, by simpa using f2, f3, f4, f5, f6, fun j τ v y k1 k2 k3 => (f7 j τ v y k1 k2 k3).mono fun c o hc ho => ⟨ho, Ctx.FP_le (fun c hc => hc) (maskSub_or_right (maskSub_refl _)) hc⟩⟩
      · cases hx
    · cases hx

end

def trBuildSlice (tt : TypeId → TI) (N : Nat) (E : SE) (t : Nat) (ty bt : TypeId) (len : Nat) (parts : List (Nat × Operand)) : TR :=
  match one tt bt with
  | some (.sl e) =>
    if t < N ∧ (tt e).ok = true ∧ one tt ty = some (.sl e) ∧ parts.map Prod.fst = List.range len ∧ len * (tt e).lv.length ≤ 16777216 then
      if len = 0 then some (setVal E t [ty] false [.own (fullDs tt 8 e)], .op (2 * t) .mk [])
      else
      match rdParts tt (tt e).lv (tt e).agg E (parts.map Prod.snd) with
      | some (E1, M, ods) => some (setVal E1 t [ty] false [.own (List.replicate (tt e).lv.length (.pub M))], .op (2 * t) .mk ods)
      | none => none
    else none
  | _ => none

section
variable {Γ : Ctx} {E : SE}

/-- A slice laid into a new block. -/
theorem InvG.newSlice {ρ : Env} {a : Act} {w : World} {V : Nat → List Value} {O : Nat → Nat → BSet} {B : Nat → Nat} (h : InvG Γ none' E.get ρ a w V O B) {t : Nat} (ht : t < Γ.N) {ty e : TypeId} (hoty : one Γ.tt ty = some (.sl e)) {cs : Array Value} {ds : List Dsc} {len : Nat}
    {Vf : Nat → Nat → Value} {Xf : Nat → Nat → L} (hlm : len ≤ maxLen) (hs : cs.size = len * (Γ.tl e).length) (hcc : ∀ i j, i < len → j < (Γ.tl e).length → cs[i * (Γ.tl e).length + j]? = some (Vf i j))
    (hr : ∀ i j τ, i < len → (Γ.tl e)[j]? = some τ → ∃ M, ds.getD j (.pub 0) = .pub M ∧ Rd Γ.tl w (Γ.FP (XS none' E.get O B) M) τ (Vf i j) (Xf i j)) :
    Inv' Γ (setVal E t [ty] false [.own ds]) (upd ρ (2 * t) [.l (rows Xf len (Γ.tl e).length)]) (a.put (some t) (.slice (some ⟨w.heap.size, 0, none⟩) len len)) (w.alloc (.cells cs e (0, 0))) := by
  have hnew : (w.alloc (.cells cs e (0, 0))).heap[w.heap.size]? = some (.cells cs e (0, 0)) := heap_alloc_new w _
  have hold : ∀ (c : Nat) (o : Obj), w.heap[c]? = some o → (w.alloc (.cells cs e (0, 0))).heap[c]? = some o := by
    intro c o ho
    have hlt := (Array.getElem?_eq_some_iff.1 ho).1
    rw [heap_alloc_old w _ c hlt]; exact ho
  have hts := h.tsz
  obtain ⟨_, _, g⟩ := one_spec hoty
  have h1 := h.setTmp (S' := none') (w' := w.alloc (.cells cs e (0, 0))) t [ty] false [.own ds] [.slice (some ⟨w.heap.size, 0, none⟩) len len] [.l (rows Xf len (Γ.tl e).length)] (fun j c => j = 0 ∧ c = w.heap.size) none' rfl rfl rfl (by simp)
    (fun c o ho _ => hold c o ho) (fun c hc => hc.elim) (fun j c hc => .inr (by omega)) (fun c hc => hc.elim) (fun j j' c h1 h2 => by rw [h1.1, h2.1]) (fun c j hc => hc.elim)
    (fun j c hc => .inl (by have := h.size; omega)) (fun c hc => hc.elim) (fun j c hc => ⟨ds, by obtain ⟨rfl, _⟩ := hc; rfl⟩)
    (by intro u hu'; simp only [List.mem_singleton] at hu'; rw [hu']; rfl) (by omega) rfl rfl (by simp [g])
    (by
      intro j nl τ u x k1 k2 k3 k4
      cases j with
      | succ j => simp at k1
      | zero =>
        simp only [List.getElem?_cons_zero, Option.some.injEq] at k1 k3 k4
        simp [g] at k2
        subst k1 k2 k3 k4
        show Own _ _ _ _ _ _ _ (fun c => (0 : Nat) = 0 ∧ c = w.heap.size)
        refine .sl Vf Xf (fun _ _ _ => False) hnew hs (Nat.le_refl _) hlm hcc ?_ (fun _ _ _ _ _ _ _ _ _ h => h.elim) (fun _ _ _ _ h => h) (fun c => ⟨fun h => .inl h.2, fun h => ⟨rfl, h.resolve_right (by rintro ⟨_, _, _, _, h⟩; exact h)⟩⟩)
        intro i j τ hi hτ
        obtain ⟨M, hM, hrd⟩ := hr i j τ hi hτ
        rw [hM]
        exact .pub (hrd.mono fun c o hc ho => ⟨hold c o ho, .inl ⟨hc, (Array.getElem?_eq_some_iff.1 ho).1⟩⟩) fun _ h => h)
  rw [packs_one hoty] at h1
  exact ⟨_, _, _, by unfold Lgo.setVal; rw [SE.get_put]; exact h1⟩

theorem trBuildSlice_snd (hT : TTOK Γ.P Γ.tt) (o : Oper) {t : Nat} {bt : TypeId} {len : Nat} {parts : Array (Nat × Operand)} (hd : o.dst = some t) (ho : o.op = .buildSlice bt len parts) {E' : SE} {c : Cmd}
    (htr : trBuildSlice Γ.tt Γ.N E t o.type bt len parts.toList = some (E', c)) : Snd Γ E o E' c := by
  intro F n ρ ρ' a w hinv hden
  unfold trBuildSlice at htr
  split at htr
  · rename_i e hbt
    split at htr
    · rename_i hc
      obtain ⟨ht, hok, hoty, hidx, hsm⟩ := hc
      have hu := hT.one hbt
      simp only [leafIs] at hu
      obtain ⟨i, z, k1, k2, k3, k4, k5, k6, k7⟩ := (hT e hok).info
      have hsz : i.size = (Γ.tl e).length := k2
      have hlenp : parts.toList.length = len := by have := congrArg List.length hidx; simpa using this
      split at htr
      · rename_i h0
        cases htr
        obtain ⟨r, g1, rfl⟩ := den_op hden
        obtain ⟨V, O, B, hI⟩ := hinv
        subst h0
        have hpe : parts = #[] := by
          apply Array.eq_empty_of_size_eq_zero
          simpa using hlenp
        subst hpe
        simp only [List.map_nil, Prim.run, Option.some.injEq] at g1
        subst g1
        have := hI.newSlice ht hoty (cs := #[]) (ds := fullDs Γ.tt 8 e) (len := 0) (Vf := fun _ _ => .bool false) (Xf := fun _ _ => .i 0) (Nat.zero_le _) (by simp) (fun i j hi => by omega) (fun i j τ hi => by omega)
        refine .inl ⟨.slice (some ⟨w.heap.size, 0, none⟩) 0 0, _, ?_, by rw [hd]; exact this⟩
        have hemp : (Array.map (fun _ => (default : Value)) (Array.range 0)) = #[] := Array.eq_empty_of_size_eq_zero (by simp)
        simp [execOp, ho, Instr.buildSlice, run_underlying hu, sizeOf, typeInfo, k1, Instr.fill, newRow, hemp]
      · rename_i h0
        split at htr
        · rename_i E1 M ods hp
          cases htr
          obtain ⟨r, g1, rfl⟩ := den_op hden
          obtain ⟨V, O, B, hI0⟩ := hinv
          obtain ⟨O1, hI, _, l1, hrow⟩ := rdParts_ok hI0 hp
          rw [List.length_map, hlenp] at hrow l1
          simp only [Prim.run, Option.some.injEq] at g1
          let vsf : Nat → List Value := fun p => if h : p < len then (hrow p h).choose else []
          have hvsf : ∀ p, p < len → ∃ (od : Opd) (x : Operand), (parts.toList.map Prod.snd)[p]? = some x ∧ ods[p]? = some od ∧ (a.eval x = if (Γ.tt e).agg = true then .agg (vsf p).toArray else (vsf p).headD undef) ∧ (vsf p).length = (Γ.tt e).lv.length ∧ (od.get ρ).length = (Γ.tt e).lv.length ∧ (∀ v, v ∈ vsf p → v.oneCell' = true) ∧
              ∀ (j : Nat) τ v y, (Γ.tt e).lv[j]? = some τ → (vsf p)[j]? = some v → (od.get ρ)[j]? = some y → Rd Γ.tl w (Γ.FP (XS none' E1.get O1 B) M) τ v y := by
            intro p hp'
            have := (hrow p hp').choose_spec
            simp only [vsf, hp', dif_pos]
            exact this
          let us : List Value := parts.toList.map fun p => a.eval p.2
          have husl : us.length = len := by simp [us, hlenp]
          have husg : ∀ p, p < len → us[p]? = some (if (Γ.tt e).agg = true then .agg (vsf p).toArray else (vsf p).headD undef) := by
            intro p hp'
            obtain ⟨od, x, q1, q2, q3, _⟩ := hvsf p hp'
            simp only [List.getElem?_map, Option.map_eq_some_iff] at q1
            obtain ⟨pr, q4, q5⟩ := q1
            simp only [us, List.getElem?_map, q4, Option.map_some, q5, q3]
          have hcells : ∀ p, p < len → (if (Γ.tt e).agg = true then Value.agg (vsf p).toArray else (vsf p).headD undef).cells = (vsf p).toArray := by
            intro p hp'
            obtain ⟨od, x, q1, q2, q3, q4, q5, q6, _⟩ := hvsf p hp'
            exact cells_pack hT hok q4 q6
          have hparts : (parts.map fun (p : Nat × Operand) => (p.1, a.eval p.2)).toList = (us.zipIdx 0).map fun x => (x.2, x.1) := by
            apply List.ext_getElem?
            intro p
            simp only [Array.toList_map, List.getElem?_map, List.getElem?_zipIdx, us]
            by_cases hp' : p < len
            · have e1 : p < parts.toList.length := by omega
              rw [List.getElem?_eq_getElem e1]
              simp only [Option.map_some, Option.some.injEq, Prod.mk.injEq, and_true]
              have := congrArg (fun l => l[p]?) hidx
              simp only [List.getElem?_map, List.getElem?_eq_getElem e1, Option.map_some, List.getElem?_range hp', Option.some.injEq] at this
              omega
            · rw [List.getElem?_eq_none (by omega)]; rfl
          have hvs : ∀ v ∈ us, v.cells.size = i.size := by
            intro v hv
            obtain ⟨p, hp'⟩ := List.getElem?_of_mem hv
            have hpl := (List.getElem?_eq_some_iff.1 hp').1
            rw [husg p (by omega)] at hp'
            cases hp'
            rw [hcells p (by omega), List.size_toArray]
            obtain ⟨od, x, q1, q2, q3, q4, _⟩ := hvsf p (by omega)
            omega
          have hfill := Great.fill_whole (s := i.size) (by omega) us ((Array.range (len * i.size)).map (z.cells[· % z.cells.size]!)) hvs (by rw [husl]; simp)
          have hrun := run_buildSlice (P := Γ.P) w bt e len (parts.map fun (p : Nat × Operand) => (p.1, a.eval p.2)) _ i z hu k1 k3 (by rw [hsz]; show ¬ len * (Γ.tt e).lv.length > 2 ^ 24; omega) (by
            intro h
            rcases Nat.mul_eq_zero.1 h with h | h <;> omega) (by rw [hparts]; exact hfill)
          have hpos : 0 < i.size := by omega
          have hXlen : ∀ p, p < len → ∃ od, ods[p]? = some od ∧ (od.get ρ).length = (Γ.tl e).length := by
            intro p hp'
            obtain ⟨od, x, q1, q2, q3, q4, q5, _⟩ := hvsf p hp'
            exact ⟨od, q2, q5⟩
          have hrowsE : ods.map (Opd.get ρ) = rows (fun p j => (((ods[p]?).map fun od => od.get ρ).getD []).getD j (.i 0)) len (Γ.tl e).length := by
            apply List.ext_getElem?
            intro p
            by_cases hp' : p < len
            · obtain ⟨od, q1, q2⟩ := hXlen p hp'
              rw [rows_get hp', List.getElem?_map, q1]
              simp only [Option.map_some, Option.getD_some, Option.some.injEq]
              apply List.ext_getElem?
              intro j
              by_cases hj : j < (Γ.tl e).length
              · simp only [List.getElem?_map, List.getElem?_range hj, Option.map_some]
                rw [List.getD_eq_getElem?_getD, List.getElem?_eq_getElem (by omega)]; rfl
              · rw [List.getElem?_eq_none (by omega), List.getElem?_eq_none (by simpa using hj)]
            · rw [List.getElem?_eq_none (by simp [l1]; omega), List.getElem?_eq_none (by rw [rows_length]; omega)]
          have hfin := hI.newSlice ht hoty (cs := (us.flatMap fun v => v.cells.toList).toArray) (ds := List.replicate (Γ.tt e).lv.length (.pub M)) (len := len) (Vf := fun p j => (vsf p).getD j (.bool false))
            (Xf := fun p j => (((ods[p]?).map fun od => od.get ρ).getD []).getD j (.i 0))
            (by have : len * 1 ≤ len * (Γ.tt e).lv.length := Nat.mul_le_mul_left _ k7
                unfold maxLen; omega)
            (by
              rw [List.size_toArray, List.length_flatMap]
              have : us.map (fun v => v.cells.toList.length) = List.replicate len (Γ.tl e).length := by
                rw [← husl]
                rw [List.eq_replicate_iff]
                refine ⟨by simp, fun b hb => ?_⟩
                obtain ⟨v, hv, rfl⟩ := List.mem_map.1 hb
                rw [Array.length_toList, hvs v hv, hsz]
              rw [this, List.sum_replicate_nat])
            (by
              intro p j hp' hj
              rw [List.getElem?_toArray, Great.flat_get hpos us hvs, hsz]
              have hdiv : (p * (Γ.tl e).length + j) / (Γ.tl e).length = p := by rw [Nat.mul_comm, Nat.mul_add_div (by omega), Nat.div_eq_of_lt hj, Nat.add_zero]
              have hmod : (p * (Γ.tl e).length + j) % (Γ.tl e).length = j := by rw [Nat.mul_comm, Nat.mul_add_mod, Nat.mod_eq_of_lt hj]
              rw [hdiv, hmod, husg p hp']
              simp only [Option.bind_some]
              rw [hcells p hp', List.getElem?_toArray]
              obtain ⟨od, x, q1, q2, q3, q4, _⟩ := hvsf p hp'
              have hjl : j < (vsf p).length := by rw [q4]; exact hj
              rw [List.getD_eq_getElem?_getD, List.getElem?_eq_getElem hjl]; rfl)
            (by
              intro p j τ hp' hτ
              have hj := (List.getElem?_eq_some_iff.1 hτ).1
              refine ⟨M, ?_, ?_⟩
              · rw [List.getD_eq_getElem?_getD, List.getElem?_replicate, if_pos (show j < (Γ.tt e).lv.length from hj)]; rfl
              · obtain ⟨od, x, q1, q2, q3, q4, q5, q6, q7⟩ := hvsf p hp'
                have hjl : j < (vsf p).length := by rw [q4]; exact hj
                have hjo : j < (od.get ρ).length := by rw [q5]; exact hj
                refine q7 j τ _ _ hτ ?_ ?_
                · rw [List.getD_eq_getElem?_getD, List.getElem?_eq_getElem hjl]; rfl
                · rw [q2]
                  simp only [Option.map_some, Option.getD_some]
                  rw [List.getD_eq_getElem?_getD, List.getElem?_eq_getElem hjo]; rfl)
          rw [← hrowsE, g1] at hfin
          refine .inl ⟨.slice (some ⟨w.heap.size, 0, none⟩) len len, _, ?_, by rw [hd]; exact hfin⟩
          simp only [execOp, ho, Sem.run_bind, Sem.run_pure, hrun, Result.andThen_ok]
        · cases htr
    · cases htr
  · cases htr

end

end Go.Lgo

namespace Go.Lgo
open Go

theorem fill_put {place : Nat → Option (Nat × Nat)} {cells : Array Value} {i off size : Nat} {v : Value} {us : List Value} {rest : List (Nat × Value)} (hp : place i = some (off, size)) (hc : v.cells = us.toArray) (hs : us.length = size) (hb : off + us.length ≤ cells.size) :
    Instr.fill place cells ((i, v) :: rest) = Instr.fill place (cells.toList.take off ++ us ++ cells.toList.drop (off + us.length)).toArray rest := by
  have hcs : v.cells.size = us.length := by rw [hc]; simp
  have hE : v.cells.zipIdx.foldl (fun cs (x : Value × Nat) => cs.setIfInBounds (off + x.2) x.1) cells = (cells.toList.take off ++ us ++ cells.toList.drop (off + us.length)).toArray := by
    rw [← Array.foldl_toList, Array.toList_zipIdx]
    obtain ⟨g1, g2⟩ := Great.foldl_set off v.cells.toList 0 cells
    apply Array.ext_getElem?
    intro k
    have hta : (cells.toList.take off ++ us ++ cells.toList.drop (off + us.length)).toArray[k]? = (cells.toList.take off ++ us ++ cells.toList.drop (off + us.length))[k]? := List.getElem?_toArray
    rw [g2 k, hta, splice_get cells.toList us off (by rw [Array.length_toList]; exact hb)]
    simp only [Nat.add_zero, Array.length_toList, hcs, Array.getElem?_toList]
    by_cases h1 : k < off
    · rw [if_neg (by omega), if_pos h1]
    · rw [if_neg h1]
      by_cases h2 : k < off + us.length
      · rw [if_pos (by omega), if_pos h2, hc]; simp
      · rw [if_neg (by omega), if_neg h2]
  have h1 : ¬ (v.cells.size ≠ size || off + v.cells.size > cells.size) = true := by
    simp only [ne_eq, decide_not, Bool.or_eq_true, Bool.not_eq_eq_eq_not, Bool.not_true, decide_eq_false_iff_not, decide_eq_true_eq, not_or, Decidable.not_not]
    omega
  rw [Instr.fill, hp]
  simp only
  rw [if_neg h1, ← hE]

def buildParts (tt : TypeId → TI) (E : SE) (k0 : Nat) (flds : List (Nat × TypeId)) : List (Nat × Operand) → List NL → Option (List NL × List (Nat × Opd))
  | [], acc => some (acc, [])
  | (i, x) :: ps, acc => match flds[i]? with
    | some (off, ft) => match rowOpd tt E k0 (tt ft).lv (tt ft).agg x with
      | some (nls, od) => (buildParts tt E k0 flds ps (acc.take off ++ nls ++ acc.drop (off + nls.length))).map fun r => (r.1, (off, od) :: r.2)
      | none => none
    | none => none

def trBuild (tt : TypeId → TI) (N : Nat) (E : SE) (t : Nat) (ty bt : TypeId) (parts : List (Nat × Operand)) : TR :=
  if t < N ∧ (tt bt).ok = true ∧ (tt bt).agg = true ∧ (tt ty).lv = (tt bt).lv ∧ (tt ty).agg = true then
    match buildParts tt E (2 * t) (tt bt).flds parts ((tt bt).lv.map (zeroNL tt)) with
    | some (nls, prs) => some (xferAll (setVal E t [ty] false nls) (2 * t) nls.length, .op (2 * t) (.build (prs.map Prod.fst)) (.k ((tt bt).lv.map zeroL) :: prs.map Prod.snd))
    | none => none
  else none

section
variable {Γ : Ctx} {S : BSet} {E : SE} {ρ : Env} {a : Act} {w w' : World} {V : Nat → List Value} {O : Nat → Nat → BSet} {B : Nat → Nat}

theorem buildParts_ok (hT : TTOK Γ.P Γ.tt) (h : InvG Γ S E.get ρ a w V O B) {k0 : Nat} {bt : TypeId} (hok : (Γ.tt bt).ok = true) {parts : List (Nat × Operand)} {acc acc' : List NL} {prs : List (Nat × Opd)}
    (hx : buildParts Γ.tt E k0 (Γ.tt bt).flds parts acc = some (acc', prs)) {vs : List Value} {row : Row} (hv : vs.length = (Γ.tt bt).lv.length) (hr : row.length = (Γ.tt bt).lv.length) (ha : acc.length = (Γ.tt bt).lv.length)
    (hoc : ∀ v, v ∈ vs → v.oneCell' = true)
    (hn : ∀ (j : Nat) nl τ v x, acc[j]? = some nl → (Γ.tt bt).lv[j]? = some τ → vs[j]? = some v → row[j]? = some x → ∀ w', (∀ c o, w.heap[c]? = some o → ¬ XS S E.get O B c → w'.heap[c]? = some o) → NLOK Γ (XS S E.get O B) E.get ρ w w' V none' k0 τ nl v x none') :
    ∃ vs' : List Value, Instr.fill (fun i => ((Γ.tt bt).flds[i]?).map fun p => (p.1, (Γ.tt p.2).lv.length)) vs.toArray (parts.map fun p => (p.1, a.eval p.2)) = some vs'.toArray ∧ vs'.length = (Γ.tt bt).lv.length ∧ acc'.length = (Γ.tt bt).lv.length ∧
      (((prs.map Prod.fst).zip (prs.map fun p => p.2.get ρ)).foldl (fun r p => splice r p.2 p.1) row).length = (Γ.tt bt).lv.length ∧ (∀ v, v ∈ vs' → v.oneCell' = true) ∧
      ∀ (j : Nat) nl τ v x, acc'[j]? = some nl → (Γ.tt bt).lv[j]? = some τ → vs'[j]? = some v → (((prs.map Prod.fst).zip (prs.map fun p => p.2.get ρ)).foldl (fun r p => splice r p.2 p.1) row)[j]? = some x →
        ∀ w', (∀ c o, w.heap[c]? = some o → ¬ XS S E.get O B c → w'.heap[c]? = some o) → NLOK Γ (XS S E.get O B) E.get ρ w w' V none' k0 τ nl v x none' := by
  induction parts generalizing acc acc' prs vs row with
  | nil =>
    simp only [buildParts, Option.some.injEq, Prod.mk.injEq] at hx
    obtain ⟨rfl, rfl⟩ := hx
    exact ⟨vs, rfl, hv, ha, hr, hoc, hn⟩
  | cons p ps ih =>
    obtain ⟨i, x⟩ := p
    simp only [buildParts] at hx
    split at hx
    · rename_i off ft hf
      split at hx
      · rename_i nls od hro
        simp only [Option.map_eq_some_iff, Prod.mk.injEq] at hx
        obtain ⟨⟨acc2, prs2⟩, h2, rfl, rfl⟩ := hx
        obtain ⟨us, e1, e2, e3, e4, e5, e6⟩ := rowOpd_ok h hro
        obtain ⟨f1, f2⟩ := (hT bt hok).fields i off ft hf
        have hpos : 0 < (Γ.tt ft).lv.length := by obtain ⟨_, _, _, _, _, _, _, _, h⟩ := (hT ft f1).info; exact h
        have hbl := congrArg List.length f2
        simp only [List.length_take, List.length_drop] at hbl
        have hcells : (a.eval x).cells = us.toArray := by rw [e1]; exact cells_pack hT f1 e2 e5
        have hvl : (vs.take off ++ us ++ vs.drop (off + us.length)).length = vs.length := splice_length _ _ _ (by omega)
        have hal : (acc.take off ++ nls ++ acc.drop (off + nls.length)).length = acc.length := splice_length _ _ _ (by omega)
        have hrl : (splice row (od.get ρ) off).length = row.length := splice_length _ _ _ (by omega)
        obtain ⟨vs', g1, g2, g3, g4, g5, g6⟩ := ih h2 (vs := vs.take off ++ us ++ vs.drop (off + us.length)) (row := splice row (od.get ρ) off) (by omega) (by omega) (by omega)
          (by
            intro v hv'
            rcases List.mem_append.1 hv' with hv' | hv'
            · rcases List.mem_append.1 hv' with hv' | hv'
              · exact hoc v (List.mem_of_mem_take hv')
              · exact e5 v hv'
            · exact hoc v (List.mem_of_mem_drop hv'))
          (by
            intro j nl τ v y k1 k2 k3 k4
            rw [splice_get _ _ _ (by omega)] at k1 k3
            have k4' : (if j < off then row[j]? else if j < off + (od.get ρ).length then (od.get ρ)[j - off]? else row[j]?) = some y := by rw [← splice_get _ _ _ (by omega)]; exact k4
            by_cases h1 : j < off
            · rw [if_pos h1] at k1 k3 k4'
              exact hn j nl τ v y k1 k2 k3 k4'
            · rw [if_neg h1] at k1 k3 k4'
              by_cases h3 : j < off + (Γ.tt ft).lv.length
              · rw [if_pos (by omega)] at k1 k3 k4'
                refine e6 (j - off) nl τ v y k1 ?_ k3 k4'
                rw [← f2, List.getElem?_take, if_pos (by omega), List.getElem?_drop, show off + (j - off) = j by omega]; exact k2
              · rw [if_neg (by omega)] at k1 k3 k4'
                exact hn j nl τ v y k1 k2 k3 k4')
        refine ⟨vs', ?_, g2, g3, g4, g5, g6⟩
        rw [List.map_cons, fill_put (us := us) (off := off) (size := (Γ.tt ft).lv.length) (by simp [hf]) hcells e2 (by simp; omega)]
        exact g1
      · cases hx
    · cases hx

end

section
variable {Γ : Ctx} {E : SE}

theorem places_of {P : Program} {tt : TypeId → TI} (hT : TTOK P tt) : ∀ (fs : List Field) (flds : List (Nat × TypeId)), fs.map (fun f => (f.offset, f.type)) = flds → (∀ (n off : Nat) (ft : TypeId), flds[n]? = some (off, ft) → (tt ft).ok = true) →
    fs.mapM (fun f => (P.info? f.type).map fun i => (f.offset, i.size)) = some (flds.map fun p => (p.1, (tt p.2).lv.length))
  | [], flds, h, _ => by subst h; rfl
  | f :: fs, flds, h, hok => by
    subst h
    obtain ⟨i, z, k1, k2, _⟩ := (hT f.type (hok 0 f.offset f.type rfl)).info
    have := places_of hT fs _ rfl (fun n off ft hn => hok (n + 1) off ft (by simpa using hn))
    simp [List.mapM_cons, k1, this, k2]

theorem trBuild_snd (hT : TTOK Γ.P Γ.tt) (o : Oper) {t : Nat} {bt : TypeId} {parts : Array (Nat × Operand)} (hd : o.dst = some t) (ho : o.op = .build bt parts) {E' : SE} {c : Cmd}
    (htr : trBuild Γ.tt Γ.N E t o.type bt parts.toList = some (E', c)) : Snd Γ E o E' c := by
  intro F n ρ ρ' a w hinv hden
  unfold trBuild at htr
  split at htr
  · rename_i hc
    obtain ⟨ht, hok, hagg, hlve, haggy⟩ := hc
    split at htr
    · rename_i nls prs hp
      cases htr
      obtain ⟨r, g1, rfl⟩ := den_op hden
      obtain ⟨V, O, B, hI⟩ := hinv
      obtain ⟨i, z, k1, k2, k3, k4, k5, k6, k7⟩ := (hT bt hok).info
      have hds := (hT bt hok).desc
      rw [if_pos hagg] at hds
      obtain ⟨fs, hu, hfs⟩ := hds
      obtain ⟨vs', q1, q2, q3, q4, q5, q6⟩ := buildParts_ok hT hI hok hp (vs := (Γ.tt bt).lv.map zeroV) (row := (Γ.tt bt).lv.map zeroL) (by simp) (by simp) (by simp)
        (by intro v hv; obtain ⟨τ, _, rfl⟩ := List.mem_map.1 hv; exact zeroV_oc τ)
        (by
          intro j nl τ v x k1 k2 k3 k4 w' _
          simp only [List.getElem?_map, k2, Option.map_some, Option.some.injEq] at k1 k3 k4
          subst k1 k3 k4
          exact zeroNL_ok τ)
      have hpl := places_of hT fs.toList _ hfs (fun n off ft hn => ((hT bt hok).fields n off ft hn).1)
      have hbuilt : Γ.P.built bt (parts.map fun (p : Nat × Operand) => (p.1, a.eval p.2)).toList = some vs'.toArray := by
        unfold Program.built
        rw [k1, hu]
        simp only [k3, hpl]
        have hz : z.cells = ((Γ.tt bt).lv.map zeroV).toArray := by rw [← k4]
        rw [hz, Array.toList_map, ← q1]
        congr 1
        funext n
        rw [List.getElem?_toArray, List.getElem?_map]
      have hrun := run_build (P := Γ.P) w bt _ _ hbuilt
      have hgs : (Opd.k ((Γ.tt bt).lv.map zeroL) :: prs.map Prod.snd).map (Opd.get ρ) = (Γ.tt bt).lv.map zeroL :: prs.map fun p => p.2.get ρ := by simp [Opd.get, Function.comp_def]
      rw [hgs] at g1
      simp only [Prim.run, Option.some.injEq] at g1
      rw [g1] at q4 q6
      have hts := hI.tsz
      have h1 := hI.setTmp (S' := none') (w' := w) t [o.type] false nls vs' r (fun _ _ => False) none' rfl rfl rfl (Nat.le_refl _) (fun c o ho _ => ho) (fun c hc => hc.elim) (fun _ _ h => h.elim) (fun c hc => hc.elim) (fun _ _ _ h => h.elim) (fun _ _ h => h.elim) (fun _ _ h => h.elim) (fun _ h => h.elim)
        (fun _ _ h => h.elim) q5 (by omega) (by omega) (by omega) (by simp [hlve]; omega)
        (by
          intro j nl τ v x k1 k2 k3 k4
          exact q6 j nl τ v x k1 (by simpa [hlve] using k2) k3 k4 w fun c o ho _ => ho)
      have hp1 : packs Γ.tt [o.type] false vs' = .agg vs'.toArray := by
        simp only [packs, Bool.false_eq_true, if_false, packL, List.headD_cons, pack1, haggy, if_true]
        rw [List.take_of_length_le (by rw [hlve]; omega)]
      rw [hp1] at h1
      have h2 : Inv' Γ (setVal E t [o.type] false nls) (upd ρ (2 * t) r) (a.put (some t) (.agg vs'.toArray)) w := ⟨_, _, _, by unfold Lgo.setVal; rw [SE.get_put]; exact h1⟩
      refine .inl ⟨.agg vs'.toArray, w, ?_, by rw [hd]; exact h2.xferAll _ _⟩
      simp only [execOp, ho, Sem.run_bind, Sem.run_pure, hrun, Result.andThen_ok]
    · cases htr
  · cases htr

end

end Go.Lgo

namespace Go.Lgo
open Go

def optScl (tt : TypeId → TI) (E : SE) : Option Operand → Option (Option Opd)
  | none => some none
  | some x => match sclOpd tt E x with
    | some (.int _, o) => some (some o)
    | _ => none

def trSlice (tt : TypeId → TI) (N : Nat) (E : SE) (t : Nat) (ty xT : TypeId) (x : Operand) (lo hi : Option Operand) : TR :=
  match optScl tt E lo, optScl tt E hi with
  | some ol, some oh =>
    match one tt xT with
    | some (.sl e) =>
      if t < N ∧ (tt e).ok = true ∧ one tt ty = some (.sl e) then
        match rdRow tt E [.sl e] false x with
        | some (E1, [m], ox) => some (setVal E1 t [ty] false [.pub m], .op (2 * t) (.slc lo.isSome hi.isSome) (ox :: (ol.toList ++ oh.toList)))
        | _ => none
      else none
    | some .str =>
      match sclOpd tt E x with
      | some (.str, ox) => if t < N ∧ one tt ty = some .str then some (setVal E t [ty] false [.pub 0], .op (2 * t) (.sslc lo.isSome hi.isSome) (ox :: (ol.toList ++ oh.toList))) else none
      | _ => none
    | _ => none
  | _, _ => none

def trS2B (tt : TypeId → TI) (N : Nat) (E : SE) (t : Nat) (ty src dst : TypeId) (x : Operand) : TR :=
  match sclOpd tt E x, one tt src, one tt dst with
  | some (.str, ox), some .str, some (.sl e) => if t < N ∧ one tt ty = some (.sl e) ∧ one tt e = some (.int .u8) then some (setVal E t [ty] false [.pub 0], .op (2 * t) .s2b [ox]) else none
  | _, _, _ => none

def trB2S (tt : TypeId → TI) (N : Nat) (E : SE) (t : Nat) (ty src dst : TypeId) (x : Operand) : TR :=
  match slcOpd tt E x, one tt src, one tt dst with
  | some (e, ox), some (.sl e'), some .str => if t < N ∧ e = e' ∧ one tt ty = some .str ∧ one tt e = some (.int .u8) then some (setVal E t [ty] false [.pub 0], .op (2 * t) .b2s [ox]) else none
  | _, _, _ => none

theorem run_sb {P : Program} (w : World) (isS : Bool) (len cap : Nat) (lo hi : Option Value) (l h : Int) (hl : match lo with | some v => ∃ k, v = .int k l | none => l = 0) (hh : match hi with | some v => ∃ k, v = .int k h | none => h = len)
    (h0 : 0 ≤ l) (h1 : l ≤ h) (h2 : h ≤ cap) : (Instr.sliceBounds isS len cap lo hi none).run P w = .ok (l.toNat, h.toNat, cap) w := by
  have eh : (h.toNat : Int) = h := Int.toNat_of_nonneg (by omega)
  cases lo with
  | none =>
    cases hi with
    | none => subst hl hh; simp [Instr.sliceBounds]
    | some v => obtain ⟨k, rfl⟩ := hh; subst hl; simp [Instr.sliceBounds, run_sliceBound, h2, (by omega : 0 ≤ h)]
  | some u =>
    obtain ⟨k, rfl⟩ := hl
    cases hi with
    | none => subst hh; simp [Instr.sliceBounds, run_sliceBound, h0, h1]
    | some v => obtain ⟨k', rfl⟩ := hh; simp [Instr.sliceBounds, run_sliceBound, h0, h1, h2, eh, (by omega : 0 ≤ h)]

theorem rows_cut (X : Nat → Nat → L) {m n l h : Nat} (hm : h ≤ m) : ((rows X m n).take h).drop l = rows (fun i => X (l + i)) (h - l) n := by
  apply List.ext_getElem?
  intro i
  rw [List.getElem?_drop, List.getElem?_take]
  by_cases h1 : l + i < h
  · rw [if_pos h1, rows_get (by omega), rows_get (by omega)]
  · rw [if_neg h1, List.getElem?_eq_none (by rw [rows_length]; omega)]

theorem Rd.cut {tl : TL} {w : World} {F : BSet} {e : TypeId} {a : Option Addr} {len cap : Nat} {xs : List Row} (h : Rd tl w F (.sl e) (.slice a len cap) (.l xs)) {l h' : Nat} (h1 : l ≤ h') (h2 : h' ≤ len) :
    Rd tl w F (.sl e) (sliced a l h' cap (tl e).length) (.l ((xs.take h').drop l)) := by
  cases h with
  | nil =>
    have : h' = 0 := by omega
    subst this
    have : l = 0 := by omega
    subst this
    simp [sliced]
    exact .nil
  | @sl _ b off _ _ cs e' fr V X hF hb hlc hcap hc hr =>
    rw [rows_cut X h2]
    by_cases hm : cap = l
    · have e1 : h' - l = 0 := by omega
      have e2 : sliced (some ⟨b, off, none⟩) l h' cap (tl e).length = .slice (some ⟨b, off, none⟩) 0 0 := by simp [sliced, hm]; omega
      rw [e1, e2]
      exact .sl (off := off) V _ hF hb (Nat.le_refl _) (Nat.zero_le _) (fun i j hi => by omega) fun i j τ hi => by omega
    · have e2 : sliced (some ⟨b, off, none⟩) l h' cap (tl e).length = .slice (some ⟨b, off + l * (tl e).length, none⟩) (h' - l) (cap - l) := by simp [sliced, hm, Addr.add]
      rw [e2]
      refine .sl (fun i => V (l + i)) _ hF hb (by omega) (by omega) (fun i j hi hj => ?_) fun i j τ hi hτ => hr (l + i) j τ (by omega) hτ
      have := hc (l + i) j (by omega) hj
      rw [← this, Nat.add_mul]
      congr 1
      omega

section
variable {Γ : Ctx} {S : BSet} {E : SE} {ρ : Env} {a : Act} {w w' : World} {V : Nat → List Value} {O : Nat → Nat → BSet} {B : Nat → Nat}

theorem optScl_ok (h : InvG Γ S E.get ρ a w V O B) {x : Option Operand} {od : Option Opd} (hx : optScl Γ.tt E x = some od) :
    od.isSome = x.isSome ∧ ∃ i : Int, (match x.map a.eval with | some v => ∃ k, v = .int k i | none => True) ∧ (∀ o, od = some o → o.get ρ = [.i i]) := by
  unfold optScl at hx
  split at hx
  · cases hx; exact ⟨rfl, 0, trivial, fun o ho => by cases ho⟩
  · split at hx
    · rename_i x k o hs
      cases hx
      obtain ⟨v, l, e1, e2, e3⟩ := sclOpd_ok h hs
      cases e3 with
      | @int _ n => exact ⟨rfl, n, ⟨k, e1⟩, fun o ho => by cases ho; exact e2⟩
    · cases hx

/-- One published slice, or another leaf. -/
theorem InvG.setPub1 (h : InvG Γ none' E.get ρ a w V O B) {t : Nat} (ht : t < Γ.N) {ty : TypeId} {τ : Leaf} (ho : one Γ.tt ty = some τ) {v : Value} {l : L} {m : Nat} (hs : Rd Γ.tl w (Γ.FP (XS none' E.get O B) m) τ v l) :
    Inv' Γ (setVal E t [ty] false [.pub m]) (upd ρ (2 * t) [l]) (a.put (some t) v) w := by
  obtain ⟨_, _, g⟩ := one_spec ho
  have := h.setRead ht [ty] false [.pub m] [v] [l] (by intro u hu; simp only [List.mem_singleton] at hu; rw [hu]; exact hs.oc) rfl rfl (by simp [g]) (by intro j ds hj; cases j <;> simp at hj)
    (by
      intro j nl τ' u x k1 k2 k3 k4
      cases j with
      | succ j => simp at k1
      | zero =>
        simp only [List.getElem?_cons_zero, Option.some.injEq] at k1 k3 k4
        simp [g] at k2
        subst k1 k2 k3 k4
        exact hs)
  rw [packs_one ho] at this
  exact this

end

section
variable {Γ : Ctx} {E : SE}

theorem bounds_spec {lo hi : Bool} {n : Nat} {il ih : Int} {as : List Row} {p : Nat × Nat} (h : bounds lo hi n as = some p) (has : as = (if lo then [[.i il]] else []) ++ (if hi then [[.i ih]] else [])) :
    ∃ l h' : Int, (if lo then l = il else l = 0) ∧ (if hi then h' = ih else h' = n) ∧ 0 ≤ l ∧ l ≤ h' ∧ h' ≤ n ∧ p = (l.toNat, h'.toNat) := by
  subst has
  obtain ⟨l0, hl0⟩ : ∃ l0 : Int, l0 = if lo then (Lgo.hd (((if lo then [[L.i il]] else []) ++ (if hi then [[L.i ih]] else [])).getD 0 [])).int else 0 := ⟨_, rfl⟩
  obtain ⟨h0, hh0⟩ : ∃ h0 : Int, h0 = if hi then (Lgo.hd (((if lo then [[L.i il]] else []) ++ (if hi then [[L.i ih]] else [])).getD (if lo then 1 else 0) [])).int else n := ⟨_, rfl⟩
  have h : (if 0 ≤ l0 ∧ l0 ≤ h0 ∧ h0 ≤ n then some (l0.toNat, h0.toNat) else none) = some p := by rw [hl0, hh0]; exact h
  by_cases hc : 0 ≤ l0 ∧ l0 ≤ h0 ∧ h0 ≤ (n : Int)
  · rw [if_pos hc] at h
    cases h
    obtain ⟨h1, h2, h3⟩ := hc
    refine ⟨l0, h0, ?_, ?_, h1, h2, h3, rfl⟩
    · rw [hl0]; cases lo <;> simp [Lgo.hd, L.int]
    · rw [hh0]; cases hi <;> cases lo <;> simp [Lgo.hd, L.int]
  · rw [if_neg hc] at h; cases h

theorem trSlice_snd (hT : TTOK Γ.P Γ.tt) (o : Oper) {t : Nat} {xT : TypeId} {x : Operand} {lo hi : Option Operand} (hd : o.dst = some t) (ho : o.op = .slice xT x lo hi none) {E' : SE} {c : Cmd}
    (htr : trSlice Γ.tt Γ.N E t o.type xT x lo hi = some (E', c)) : Snd Γ E o E' c := by
  intro F n ρ ρ' a w hinv hden
  unfold trSlice at htr
  split at htr
  · rename_i ol oh hol hoh
    obtain ⟨V, O, B, hI0⟩ := hinv
    obtain ⟨sl1, il, sl2, sl3⟩ := optScl_ok hI0 hol
    obtain ⟨sh1, ih, sh2, sh3⟩ := optScl_ok hI0 hoh
    have has : (ol.toList ++ oh.toList).map (Opd.get ρ) = (if lo.isSome then [[.i il]] else []) ++ (if hi.isSome then [[.i ih]] else []) := by
      rw [List.map_append]
      congr 1
      · rw [← sl1]; cases ol with
        | none => rfl
        | some o => simp [sl3 o rfl]
      · rw [← sh1]; cases oh with
        | none => rfl
        | some o => simp [sh3 o rfl]
    have hbd : ∀ (isS : Bool) (len cap : Nat) (l h' : Int), (if lo.isSome then l = il else l = 0) → (if hi.isSome then h' = ih else h' = (len : Int)) → 0 ≤ l → l ≤ h' → h' ≤ cap →
        (Instr.sliceBounds isS len cap (lo.map a.eval) (hi.map a.eval) none).run Γ.P w = .ok (l.toNat, h'.toNat, cap) w := by
      intro isS len cap l h' k1 k2 k3 k4 k5
      refine run_sb w isS len cap _ _ l h' ?_ ?_ k3 k4 k5
      · cases lo with
        | none => simpa using k1
        | some u => simp only [Option.isSome_some, if_true] at k1; subst k1; exact sl2
      · cases hi with
        | none => simpa using k2
        | some u => simp only [Option.isSome_some, if_true] at k2; subst k2; exact sh2
    split at htr
    · rename_i e hxT
      have hu := hT.one hxT
      simp only [leafIs] at hu
      split at htr
      · rename_i hc
        obtain ⟨ht, hok, hoty⟩ := hc
        split at htr
        · rename_i E1 m ox hx
          cases htr
          obtain ⟨r, g1, rfl⟩ := den_op hden
          obtain ⟨O1, hI, us, e1, e2, e3, e4, e5, e6⟩ := rdRow_ok hI0 hx
          obtain ⟨yv, rfl⟩ := List.length_eq_one_iff.1 e2
          simp only [Bool.false_eq_true, if_false, List.headD_cons] at e1
          obtain ⟨yl, hyl⟩ := List.length_eq_one_iff.1 e4
          have hyr := e6 0 m (.sl e) yv yl rfl rfl rfl (by rw [hyl]; rfl)
          obtain ⟨base, len, cap, xs, rfl, rfl, hxl⟩ := hyr.slice
          rw [List.map_cons, hyl, has] at g1
          have g1' : (bounds lo.isSome hi.isSome xs.length ((if lo.isSome then [[.i il]] else []) ++ (if hi.isSome then [[.i ih]] else []))).map (fun p => [L.l ((xs.take p.2).drop p.1)]) = some r := g1
          simp only [Option.map_eq_some_iff] at g1'
          obtain ⟨p, hp, rfl⟩ := g1'
          obtain ⟨l, h', k1, k2, k3, k4, k5, rfl⟩ := bounds_spec hp rfl
          rw [hxl] at k2 k5
          have hlc : len ≤ cap := by cases hyr <;> omega
          have hel : Γ.P.elem xT = e := by simp [Program.elem, hu]
          have hrun : (Instr.sliceAt xT (.slice base len cap) (lo.map a.eval) (hi.map a.eval) none).run Γ.P w = .ok (sliced base l.toNat h'.toNat cap (Γ.tl e).length) w := by
            rw [run_sliceAt_slice w xT _ _ _ _ (by rw [hel]; exact hu), run_slice_any w xT base len cap (by rw [hel]; exact hu), hbd true len cap l h' k1 k2 k3 k4 (by omega), hel]
            simp only [Result.andThen_ok, run_sizeOfT hT hok]
            rfl
          refine .inl ⟨_, w, ?_, by rw [hd]; exact hI.setPub1 ht hoty (hyr.cut (l := l.toNat) (h' := h'.toNat) (by omega) (by omega))⟩
          simp only [execOp, ho, e1, Sem.run_bind, Sem.run_pure, Option.map_none, hrun, Result.andThen_ok]
        · cases htr
      · cases htr
    · rename_i hxT
      have hu := hT.one hxT
      simp only [leafIs] at hu
      split at htr
      · rename_i ox hx
        split at htr
        · rename_i hc
          obtain ⟨ht, hoty⟩ := hc
          cases htr
          obtain ⟨r, g1, rfl⟩ := den_op hden
          obtain ⟨v, l0, e1, e2, e3⟩ := sclOpd_ok hI0 hx
          cases e3 with
          | @str s =>
          rw [List.map_cons, e2, has] at g1
          have g1' : (bounds lo.isSome hi.isSome s.size ((if lo.isSome then [[.i il]] else []) ++ (if hi.isSome then [[.i ih]] else []))).map (fun p => [L.s (s.extract p.1 p.2)]) = some r := g1
          simp only [Option.map_eq_some_iff] at g1'
          obtain ⟨p, hp, rfl⟩ := g1'
          obtain ⟨l, h', k1, k2, k3, k4, k5, rfl⟩ := bounds_spec hp rfl
          have hrun : (Instr.sliceAt xT (.string s) (lo.map a.eval) (hi.map a.eval) none).run Γ.P w = .ok (.string (s.extract l.toNat h'.toNat)) w := by
            rw [run_sliceAt_string w xT _ _ _ _ hu]
            simp [Instr.slice, run_underlying hu, hbd false s.size s.size l h' k1 k2 k3 k4 (by omega)]
          refine .inl ⟨_, w, ?_, by rw [hd]; exact hI0.setPub1 ht hoty .str⟩
          simp only [execOp, ho, e1, Sem.run_bind, Sem.run_pure, Option.map_none, hrun, Result.andThen_ok]
        · cases htr
      · cases htr
    · cases htr
  · cases htr

theorem trIdx_snd (hT : TTOK Γ.P Γ.tt) (o : Oper) {t : Nat} {xT : TypeId} {x i : Operand} (hd : o.dst = some t) (ho : o.op = .index xT x i) {E' : SE} {c : Cmd} (htr : trIdx Γ.tt Γ.N E t o.type xT x i = some (E', c)) : Snd Γ E o E' c := by
  intro F n ρ ρ' a w hinv hden
  unfold trIdx at htr
  split at htr
  · rename_i ox k oi hxT hx hi
    simp only [Option.ite_none_right_eq_some, Option.some.injEq, Prod.mk.injEq] at htr
    obtain ⟨⟨ht, hoty⟩, rfl, rfl⟩ := htr
    obtain ⟨r, g1, rfl⟩ := den_op hden
    obtain ⟨V, O, B, hI⟩ := hinv
    have hu := hT.one hxT
    simp only [leafIs] at hu
    obtain ⟨v, l, e1, e2, e3⟩ := sclOpd_ok hI hx
    obtain ⟨iv, il, f1, f2, f3⟩ := sclOpd_ok hI hi
    cases e3 with
    | @str s =>
    cases f3 with
    | @int _ n =>
    rw [List.map_cons, List.map_cons, List.map_nil, e2, f2] at g1
    have g1' : (if 0 ≤ n then (s.data.toList[n.toNat]?).map (fun b => [L.i b.toNat]) else none) = some r := g1
    by_cases h0 : 0 ≤ n
    · rw [if_pos h0] at g1'
      simp only [Option.map_eq_some_iff] at g1'
      obtain ⟨b, hb, rfl⟩ := g1'
      have hlt : n.toNat < s.size := by have := (List.getElem?_eq_some_iff.1 hb).1; rw [Array.length_toList] at this; exact this
      have hsb : s[n.toNat]'hlt = b := by
        have := (List.getElem?_eq_some_iff.1 hb).2
        rw [← this]; rfl
      have hrun : (Instr.index xT (.string s) (.int k n)).run Γ.P w = .ok (.int .u8 b.toNat) w := by
        rw [run_index_string w xT s k n hu, dif_pos ⟨h0, by omega⟩]
        rw [hsb]
      refine .inl ⟨_, w, ?_, by rw [hd]; exact hI.setPub1 (m := 0) ht hoty .int⟩
      simp only [execOp, ho, e1, f1, Sem.run_bind, Sem.run_pure, hrun, Result.andThen_ok]
    · rw [if_neg h0] at g1'; cases g1'
  · cases htr

theorem foldl_push_bytes (ns : List Int) (s : ByteArray) : ns.foldl (fun r n => r.push (UInt8.ofNat n.toNat)) s = ⟨(s.data.toList ++ ns.map fun n => UInt8.ofNat n.toNat).toArray⟩ := by
  induction ns generalizing s with
  | nil => simp
  | cons n ns ih =>
    rw [List.foldl_cons, ih]
    simp [ByteArray.push]

theorem trB2S_snd (hT : TTOK Γ.P Γ.tt) (o : Oper) {t : Nat} {src dst : TypeId} {x : Operand} (hd : o.dst = some t) (ho : o.op = .convert src dst x) {E' : SE} {c : Cmd} (htr : trB2S Γ.tt Γ.N E t o.type src dst x = some (E', c)) : Snd Γ E o E' c := by
  intro F n ρ ρ' a w hinv hden
  unfold trB2S at htr
  split at htr
  · rename_i e ox e' hx hs hdst
    simp only [Option.ite_none_right_eq_some, Option.some.injEq, Prod.mk.injEq] at htr
    obtain ⟨⟨ht, rfl, hoty, he⟩, rfl, rfl⟩ := htr
    obtain ⟨r, g1, rfl⟩ := den_op hden
    obtain ⟨V, O, B, hI⟩ := hinv
    have hus := hT.one hs
    have hud := hT.one hdst
    have hue := hT.one he
    simp only [leafIs] at hus hud hue
    obtain ⟨_, _, hlve⟩ := one_spec he
    have hn1 : (Γ.tl e).length = 1 := by show (Γ.tt e).lv.length = 1; rw [hlve]; rfl
    obtain ⟨v, l, e1, e2, e3⟩ := slcOpd_ok hI hx
    rw [List.map_cons, List.map_nil, e2] at g1
    have g1' : some [L.s (rowsBytes l.list)] = some r := g1
    cases g1'
    have hrun : (convert src dst v).run Γ.P w = .ok (.string (rowsBytes l.list)) w := by
      cases e3 with
      | nil => rw [run_convert_bytes_string w src dst e _ _ _ hus hue hud]; rfl
      | @sl _ b off len cap cs e' fr Vf Xf hF hb hlc hcap hcc hr =>
        rw [run_convert_bytes_string w src dst e _ _ _ hus hue hud]
        have hcell : ∀ j, j < len → ∃ n : Int, cs[off + j]? = some (.int .u8 n) ∧ Xf j 0 = .i n := by
          intro j hj
          have h1 := hcc j 0 hj (by omega)
          have h2 := hr j 0 (.int .u8) hj (by show (Γ.tt e).lv[0]? = _; rw [hlve]; rfl)
          rw [hn1, Nat.mul_one, Nat.add_zero] at h1
          rw [h1]
          generalize Vf j 0 = vv at h2 ⊢
          generalize Xf j 0 = xx at h2 ⊢
          cases h2 with
          | int => exact ⟨_, rfl, rfl⟩
        let nf : Nat → Int := fun j => (Xf j 0).int
        have hnf : ∀ j, j < len → cs[off + j]? = some (.int .u8 (nf j)) := by
          intro j hj
          obtain ⟨n, h1, h2⟩ := hcell j hj
          rw [h1]; simp [nf, h2, L.int]
        have hl := run_loadCells_list (P := Γ.P) w ⟨b, off, none⟩ (((List.range len).map nf).map (Value.int .u8)) (fun j v hj => by
          have hjl : j < len := by simpa using (List.getElem?_eq_some_iff.1 hj).1
          simp only [List.getElem?_map, List.getElem?_range hjl, Option.map_some, Option.some.injEq] at hj
          have : (⟨b, off, none⟩ : Addr).add j = ⟨b, off + j, none⟩ := by simp [Addr.add]
          rw [this, cell_of_row w b (off + j) cs e' fr hb, hnf j hjl, hj])
        simp only [List.length_map, List.length_range] at hl
        rw [run_bytesToString w ⟨b, off, none⟩ len cap _ hl, foldl_push_bytes]
        congr 2
        unfold rowsBytes L.list rows
        rw [List.map_map, hn1]
        have he0 : ByteArray.empty.data = #[] := rfl
        simp only [he0, List.nil_append, List.map_map]
        congr 1
    refine .inl ⟨_, w, ?_, by rw [hd]; exact hI.setPub1 (m := 0) ht hoty .str⟩
    simp only [execOp, ho, e1, Sem.run_bind, Sem.run_pure, hrun, Result.andThen_ok]
  · cases htr

end

end Go.Lgo

namespace Go.Lgo
open Go

section
variable {Γ : Ctx} {S : BSet} {E : SE} {ρ : Env} {a : Act} {w w' : World} {V : Nat → List Value} {O : Nat → Nat → BSet} {B : Nat → Nat}

/-- A published slice laid into a new block. -/
theorem InvG.newPub (h : InvG Γ none' E.get ρ a w V O B) {t : Nat} (ht : t < Γ.N) {ty e : TypeId} (hoty : one Γ.tt ty = some (.sl e)) {cs : Array Value} {fr : Nat × Nat} {len cap : Nat} {Vf : Nat → Nat → Value} {Xf : Nat → Nat → L} (hw : w'.os = w.os ∧ w'.tape = w.tape ∧ w'.output = w.output ∧ w'.heap = w.heap.push (.cells cs e fr))
    (hlc : len ≤ cap) (hcm : cap ≤ maxLen) (hcc : ∀ i j, i < len → j < (Γ.tl e).length → cs[i * (Γ.tl e).length + j]? = some (Vf i j))
    (hr : ∀ i j τ, i < len → (Γ.tl e)[j]? = some τ → Scl τ (Vf i j) (Xf i j)) :
    Inv' Γ (setVal E t [ty] false [.pub 0]) (upd ρ (2 * t) [.l (rows Xf len (Γ.tl e).length)]) (a.put (some t) (.slice (some ⟨w.heap.size, 0, none⟩) len cap)) w' := by
  obtain ⟨hw1, hw2, hw3, hw4⟩ := hw
  have hnew : w'.heap[w.heap.size]? = some (.cells cs e fr) := by rw [hw4]; simp
  have hold : ∀ (c : Nat) (o : Obj), w.heap[c]? = some o → w'.heap[c]? = some o := by
    intro c o ho
    have hlt := (Array.getElem?_eq_some_iff.1 ho).1
    rw [hw4, Array.getElem?_push, if_neg (by omega)]; exact ho
  have hts := h.tsz
  obtain ⟨_, _, g⟩ := one_spec hoty
  have h1 := h.setTmp (S' := none') (w' := w') t [ty] false [.pub 0] [.slice (some ⟨w.heap.size, 0, none⟩) len cap] [.l (rows Xf len (Γ.tl e).length)] (fun _ _ => False) (fun c => c = w.heap.size) hw1 hw2 hw3 (by rw [hw4]; simp)
    (fun c o ho _ => hold c o ho) (fun c hc => hc.elim) (fun j c hc => hc.elim) (fun c hc => ⟨.inr (by omega), .inl (by have := h.size; omega), fun h => h, fun _ h => h⟩) (fun j j' c h1 _ => h1.elim) (fun c j hc => hc.elim)
    (fun j c hc => hc.elim) (fun c hc => hc.elim) (fun j c hc => hc.elim)
    (by intro u hu'; simp only [List.mem_singleton] at hu'; rw [hu']; rfl) (by omega) rfl rfl (by simp [g])
    (by
      intro j nl τ u x k1 k2 k3 k4
      cases j with
      | succ j => simp at k1
      | zero =>
        simp only [List.getElem?_cons_zero, Option.some.injEq] at k1 k3 k4
        simp [g] at k2
        subst k1 k2 k3 k4
        exact Rd.sl (off := 0) Vf Xf (.inr rfl) hnew hlc hcm (fun i j hi hj => by rw [Nat.zero_add]; exact hcc i j hi hj) fun i j τ hi hτ => (hr i j τ hi hτ).rd)
  rw [packs_one hoty] at h1
  exact ⟨_, _, _, by unfold Lgo.setVal; rw [SE.get_put]; exact h1⟩

end

section
variable {Γ : Ctx} {E : SE}

theorem trS2B_snd (hT : TTOK Γ.P Γ.tt) (o : Oper) {t : Nat} {src dst : TypeId} {x : Operand} (hd : o.dst = some t) (ho : o.op = .convert src dst x) {E' : SE} {c : Cmd} (htr : trS2B Γ.tt Γ.N E t o.type src dst x = some (E', c)) : Snd Γ E o E' c := by
  intro F n ρ ρ' a w hinv hden
  unfold trS2B at htr
  split at htr
  · rename_i ox e hx hs hdst
    simp only [Option.ite_none_right_eq_some, Option.some.injEq, Prod.mk.injEq] at htr
    obtain ⟨⟨ht, hoty, he⟩, rfl, rfl⟩ := htr
    obtain ⟨r, g1, rfl⟩ := den_op hden
    obtain ⟨V, O, B, hI⟩ := hinv
    have hus := hT.one hs
    have hud := hT.one hdst
    have hue := hT.one he
    simp only [leafIs] at hus hud hue
    obtain ⟨_, _, hlve⟩ := one_spec he
    have hn1 : (Γ.tl e).length = 1 := by show (Γ.tt e).lv.length = 1; rw [hlve]; rfl
    obtain ⟨v, l, e1, e2, e3⟩ := sclOpd_ok hI hx
    cases e3 with
    | @str s =>
    rw [List.map_cons, List.map_nil, e2] at g1
    have g1' : (if s.size ≤ maxRows then some [L.l (bytesRows s)] else none) = some r := g1
    by_cases hsz : s.size ≤ maxRows
    · rw [if_pos hsz] at g1'
      cases g1'
      have hrun := run_bytes_of_string (P := Γ.P) w src dst e s hus hud hue
      have hge := grownCap_ge w s.size 0 e
      have hcm : grownCap w s.size 0 e ≤ maxLen := grownCap_le_maxLen w s.size 0 e (Nat.le_trans hsz (by decide))
      have hsd : s.data.size = s.size := rfl
      have hbr : ∀ i : Nat, i < s.size → (bytesRow s (grownCap w s.size 0 e))[i]? = some (.int .u8 (s.data.toList.getD i 0).toNat) := by
        intro i hi
        unfold bytesRow
        have hi' : i < s.data.toList.length := by rw [Array.length_toList, hsd]; exact hi
        rw [Array.getElem?_append_left (by rw [Array.size_map, hsd]; exact hi), Array.getElem?_map, Array.getElem?_eq_getElem (by rw [hsd]; exact hi)]
        rw [List.getD_eq_getElem?_getD, List.getElem?_eq_getElem hi']
        simp
      have := hI.newPub (w' := w.drew.alloc (.cells (bytesRow s (grownCap w s.size 0 e)) e ((bytesRow s (grownCap w s.size 0 e)).size, (bytesRow s (grownCap w s.size 0 e)).size + 1))) ht hoty (len := s.size) (cap := grownCap w s.size 0 e)
        (Vf := fun i _ => .int .u8 (s.data.toList.getD i 0).toNat) (Xf := fun i _ => .i (s.data.toList.getD i 0).toNat) ⟨rfl, rfl, rfl, rfl⟩ hge hcm
        (fun i j hi hj => by
          have : j = 0 := by omega
          subst this
          rw [hn1, Nat.mul_one, Nat.add_zero]
          exact hbr i hi)
        (fun i j τ hi hτ => by
          have hj := (List.getElem?_eq_some_iff.1 hτ).1
          have : j = 0 := by omega
          subst this
          have hτ' : (Γ.tt e).lv[0]? = some τ := hτ
          rw [hlve] at hτ'
          cases hτ'
          exact .int)
      have hrows : rows (fun i _ => L.i (s.data.toList.getD i 0).toNat) s.size (Γ.tl e).length = bytesRows s := by
        rw [hn1]
        apply List.ext_getElem?
        intro i
        unfold bytesRows
        by_cases hi : i < s.size
        · have hi' : i < s.data.toList.length := by rw [Array.length_toList, hsd]; exact hi
          rw [rows_get hi, List.getElem?_map, List.getElem?_eq_getElem hi', List.getD_eq_getElem?_getD, List.getElem?_eq_getElem hi']
          rfl
        · rw [List.getElem?_eq_none (by rw [rows_length]; omega), List.getElem?_eq_none (by rw [List.length_map, Array.length_toList, hsd]; omega)]
      rw [hrows] at this
      refine .inl ⟨_, _, ?_, by rw [hd]; exact this⟩
      simp only [execOp, ho, e1, Sem.run_bind, Sem.run_pure, hrun, Result.andThen_ok]
    · rw [if_neg hsz] at g1'; cases g1'
  · cases htr

end

end Go.Lgo

namespace Go.Lgo
open Go

def trLoad (tt : TypeId → TI) (N : Nat) (E : SE) (t s : Nat) (ty : TypeId) : TR :=
  match (E.get (2 * s)).k with
  | .bp k id off => trLoadB tt N E t ty k id off
  | .ep s' j id e off => trLoadE tt N E t s ty s' j id e off
  | .pep m e off => trLoadP tt N E t s ty m e off
  | _ => none
def trStore (tt : TypeId → TI) (E : SE) (s : Nat) (ty : TypeId) (x : Operand) : TR :=
  match (E.get (2 * s)).k with
  | .bp k id off => trStoreB tt E ty k id off x
  | .ep _ _ _ _ _ => trStoreE tt E s ty x
  | _ => none
def trConv (tt : TypeId → TI) (N : Nat) (E : SE) (t : Nat) (ty src dst : TypeId) (x : Operand) : TR :=
  match trCvt tt N E t ty src dst x with
  | some r => some r
  | none => match trS2B tt N E t ty src dst x with
    | some r => some r
    | none => trB2S tt N E t ty src dst x

def trBuiltin (tt : TypeId → TI) (N : Nat) (E : SE) (t : Nat) (ty : TypeId) (c : Call) : TR :=
  match c with
  | { callee := .builtin .len, args := ⟨[x]⟩, argTypes := ⟨[xT]⟩ } => trLen tt N E t ty xT x
  | { callee := .builtin .append, args := ⟨[x, y]⟩, argTypes := ⟨[xT, yT]⟩ } => if xT = yT then trAppend tt N E t ty xT x y else none
  | _ => none

/-- **The translation of an operation** that is neither a call of the program's own nor a pick. -/
def trOp (tt : TypeId → TI) (N : Nat) (E : SE) (o : Oper) : TR :=
  match o.dst with
  | some t => match o.op with
    | .move x => trCopy tt N E t o.type x false
    | .assign x => trCopy tt N E t o.type x true
    | .binOp op xT x y _ => trBinOp tt N E t o.type op xT x y
    | .unOp op _ x => trUn tt N E t o.type op x
    | .convert src dst x => trConv tt N E t o.type src dst x
    | .extract x i => trExtract tt N E t x i
    | .field xT x f => trField tt N E t xT x f
    | .fieldAddr xT x f => trFieldAddr tt N E t xT x f
    | .nilCheck x => trNilCheck tt N E t x
    | .alloc ty => trAlloc tt N E t ty
    | .box ty x => trBox tt N E t ty x
    | .indexAddr xT x i => trIndexAddr tt N E t xT x i
    | .index xT x i => trIdx tt N E t o.type xT x i
    | .slice xT x lo hi none => trSlice tt N E t o.type xT x lo hi
    | .build bt parts => trBuild tt N E t o.type bt parts.toList
    | .buildSlice bt len parts => trBuildSlice tt N E t o.type bt len parts.toList
    | .load ty (.tmp s) => trLoad tt N E t s ty
    | .call c => trBuiltin tt N E t o.type c
    | _ => none
  | none => match o.op with
    | .store ty (.tmp s) x => trStore tt E s ty x
    | _ => none

section
variable {Γ : Ctx} {E : SE}

theorem trLoad_snd (hT : TTOK Γ.P Γ.tt) (o : Oper) {t s : Nat} {ty : TypeId} (hd : o.dst = some t) (ho : o.op = .load ty (.tmp s)) {E' : SE} {c : Cmd} (htr : trLoad Γ.tt Γ.N E t s ty = some (E', c)) : Snd Γ E o E' c := by
  unfold trLoad at htr
  split at htr
  · rename_i k id off hk; exact trLoadB_snd hT o hd ho hk htr
  · rename_i s' j id e off hk; exact trLoadE_snd hT o hd ho hk htr
  · rename_i m e off hk; exact trLoadP_snd hT o hd ho hk htr
  · cases htr
theorem trStore_snd (hT : TTOK Γ.P Γ.tt) (o : Oper) {s : Nat} {ty : TypeId} {x : Operand} (hd : o.dst = none) (ho : o.op = .store ty (.tmp s) x) {E' : SE} {c : Cmd} (htr : trStore Γ.tt E s ty x = some (E', c)) : Snd Γ E o E' c := by
  unfold trStore at htr
  split at htr
  · rename_i k id off hk; exact trStoreB_snd hT o hd ho hk htr
  · exact trStoreE_snd hT o hd ho htr
  · cases htr
theorem trConv_snd (hT : TTOK Γ.P Γ.tt) (o : Oper) {t : Nat} {src dst : TypeId} {x : Operand} (hd : o.dst = some t) (ho : o.op = .convert src dst x) {E' : SE} {c : Cmd} (htr : trConv Γ.tt Γ.N E t o.type src dst x = some (E', c)) : Snd Γ E o E' c := by
  unfold trConv at htr
  split at htr
  · rename_i r h; cases htr; exact trCvt_snd hT o hd ho h
  · split at htr
    · rename_i r h; cases htr; exact trS2B_snd hT o hd ho h
    · exact trB2S_snd hT o hd ho htr
theorem trBuiltin_snd (hT : TTOK Γ.P Γ.tt) (o : Oper) {t : Nat} {cl : Call} (hd : o.dst = some t) (ho : o.op = .call cl) {E' : SE} {c : Cmd} (htr : trBuiltin Γ.tt Γ.N E t o.type cl = some (E', c)) : Snd Γ E o E' c := by
  unfold trBuiltin at htr
  split at htr
  · exact trLen_snd hT o hd ho htr
  · split at htr
    · rename_i h; subst h; exact trAppend_snd hT o hd ho htr
    · cases htr
  · cases htr

theorem trOp_snd (hT : TTOK Γ.P Γ.tt) (o : Oper) {E' : SE} {c : Cmd} (htr : trOp Γ.tt Γ.N E o = some (E', c)) : Snd Γ E o E' c := by
  unfold trOp at htr
  split at htr
  · rename_i t hd
    split at htr
    · rename_i x ho; exact trCopy_snd o hd false (.inl ho) htr
    · rename_i x ho; exact trCopy_snd o hd true (.inr ho) htr
    · rename_i ho; exact trBinOp_snd hT o hd ho htr
    · rename_i ho; exact trUn_snd o hd ho htr
    · rename_i ho; exact trConv_snd hT o hd ho htr
    · rename_i ho; exact trExtract_snd o hd ho htr
    · rename_i ho; exact trField_snd hT o hd ho htr
    · rename_i ho; exact trFieldAddr_snd hT o hd ho htr
    · rename_i ho; exact trNilCheck_snd o hd ho htr
    · rename_i ho; exact trAlloc_snd hT o hd ho htr
    · rename_i ho; exact trBox_snd hT o hd ho htr
    · rename_i ho; exact trIndexAddr_snd hT o hd ho htr
    · rename_i ho; exact trIdx_snd hT o hd ho htr
    · rename_i ho; exact trSlice_snd hT o hd ho htr
    · rename_i ho; exact trBuild_snd hT o hd ho htr
    · rename_i ho; exact trBuildSlice_snd hT o hd ho htr
    · rename_i ho; exact trLoad_snd hT o hd ho htr
    · rename_i ho; exact trBuiltin_snd hT o hd ho htr
    · cases htr
  · rename_i hd
    split at htr
    · rename_i ho; exact trStore_snd hT o hd ho htr
    · cases htr

end

end Go.Lgo

namespace Go.Lgo
open Go

def walkN {X : Type} (step : X → Option (Ex × X)) : Nat → X → Option (Ex × X)
  | 0, _ => none
  | k + 1, x => match step x with
    | some (.nrm, x') => walkN step k x'
    | r => r

/-- The walk: rg, what a region does; cd, which way a condition goes. -/
def walk {X : Type} (rg : Array Oper → Bool → X → Option X) (cd : X → Operand → Option Bool) (n : Nat) : Code → X → Option (Ex × X)
  | .skip, x => some (.nrm, x)
  | .region _ ops draw, x => match rg ops draw x with
    | some x' => some (.nrm, x')
    | none => none
  | .seq a b, x => match walk rg cd n a x with
    | some (.nrm, x') => walk rg cd n b x'
    | r => r
  | .cond c a b, x => match cd x c with
    | some true => walk rg cd n a x
    | some false => walk rg cd n b x
    | none => none
  | .block id c, x => match walk rg cd n c x with
    | some (.exit id', x') => some (bif Nat.beq id' id then .nrm else .exit id', x')
    | r => r
  | .loop c, x => walkN (walk rg cd n c) n x
  | .exit id, x => some (.exit id, x)
  | .ret, x => some (.ret, x)
  | _, _ => none

def Ex.toExit : Ex → Exit
  | .nrm => .normal
  | .exit id => .exit id
  | .ret => .ret

theorem least {p : Nat → Prop} (h : ∃ k, p k) : ∃ m, p m ∧ ∀ k, p k → m ≤ k := by
  obtain ⟨k, hk⟩ := h
  induction k using Nat.strongRecOn with
  | _ k ih =>
    by_cases hl : ∃ j, j < k ∧ p j
    · obtain ⟨j, h1, h2⟩ := hl
      exact ih j h1 h2
    · exact ⟨k, hk, fun j hj => Nat.le_of_not_lt fun hlt => hl ⟨j, hlt, hj⟩⟩

section
variable {P : Program} {X : Type} {J : X → Act → World → Prop} {rg : Array Oper → Bool → X → Option X} {cd : X → Operand → Option Bool}

theorem walk_sound (hrg : ∀ id ops draw x x' a w, rg ops draw x = some x' → J x a w → (Code.region id ops draw).wp P (fun e a w => e = .normal ∧ J x' a w) a w)
    (hcd : ∀ x c b a w, cd x c = some b → J x a w → a.eval c = .bool b) (n : Nat) (c : Code) : ∀ x ex x' a w, walk rg cd n c x = some (ex, x') → J x a w → c.wp P (fun e a w => e = ex.toExit ∧ J x' a w) a w := by
  induction c with
  | skip => intro x ex x' a w h hj; simp only [walk, Option.some.injEq, Prod.mk.injEq] at h; obtain ⟨rfl, rfl⟩ := h; exact wp_skip ⟨rfl, hj⟩
  | region id ops draw =>
    intro x ex x' a w h hj
    simp only [walk] at h
    split at h
    · rename_i x1 h1; cases h; exact hrg id ops draw x _ a w h1 hj
    · cases h
  | seq p q ihp ihq =>
    intro x ex x' a w h hj
    simp only [walk] at h
    refine wp_seq ?_
    split at h
    · rename_i x1 h1
      refine wp_mono (ihp x .nrm x1 a w h1 hj) ?_
      rintro e a1 w1 ⟨rfl, hj1⟩
      exact ihq x1 ex x' a1 w1 h hj1
    · rename_i hne
      refine wp_mono (ihp x ex x' a w h hj) ?_
      rintro e a1 w1 ⟨rfl, hj1⟩
      cases ex with
      | nrm => exact absurd h (hne x')
      | exit id => exact ⟨rfl, hj1⟩
      | ret => exact ⟨rfl, hj1⟩
  | cond c p q ihp ihq =>
    intro x ex x' a w h hj
    simp only [walk] at h
    split at h
    · rename_i h1; exact wp_cond_true (hcd x c true a w h1 hj) (ihp x ex x' a w h hj)
    · rename_i h1; exact wp_cond_false (hcd x c false a w h1 hj) (ihq x ex x' a w h hj)
    · cases h
  | block id c ih =>
    intro x ex x' a w h hj
    simp only [walk] at h
    refine wp_block ?_
    split at h
    · rename_i id' x1 h1
      refine wp_mono (ih x (.exit id') x1 a w h1 hj) ?_
      rintro e a1 w1 ⟨rfl, hj1⟩
      simp only [Option.some.injEq, Prod.mk.injEq] at h
      obtain ⟨h, rfl⟩ := h
      show if id' = id then _ else _
      by_cases e : id' = id
      · subst e
        rw [if_pos rfl]
        rw [Nat.beq_refl] at h
        subst h; exact ⟨rfl, hj1⟩
      · rw [if_neg e]
        rw [beq_false e] at h
        subst h; exact ⟨rfl, hj1⟩
    · rename_i hne
      refine wp_mono (ih x ex x' a w h hj) ?_
      rintro e a1 w1 ⟨rfl, hj1⟩
      cases ex with
      | nrm => exact ⟨rfl, hj1⟩
      | exit id => exact absurd h (hne id x')
      | ret => exact ⟨rfl, hj1⟩
  | loop c ih =>
    intro x ex x' a w h hj
    simp only [walk] at h
    classical
    let L : Nat → Act → World → Prop := fun k a w => ∃ x1, walkN (walk rg cd n c) k x1 = some (ex, x') ∧ J x1 a w
    let I : Act → World → Prop := fun a w => ∃ k, L k a w
    let μ : Act → World → Nat := fun a w => if h : ∃ k, L k a w then Classical.choose (least h) else 0
    refine wp_loop I μ ⟨n, x, h, hj⟩ ?_
    intro a w hI
    have hμ : μ a w = Classical.choose (least hI) := by simp only [μ]; exact dif_pos hI
    obtain ⟨x1, hx1, hj1⟩ := (Classical.choose_spec (least hI)).1
    rw [hμ]
    cases hk : Classical.choose (least hI) with
    | zero => rw [hk] at hx1; simp [walkN] at hx1
    | succ k =>
      rw [hk] at hx1
      simp only [walkN] at hx1
      split at hx1
      · rename_i x2 h2
        refine wp_mono (ih x1 .nrm x2 a w h2 hj1) ?_
        rintro e a2 w2 ⟨rfl, hj2⟩
        have hI2 : ∃ k, L k a2 w2 := ⟨k, x2, hx1, hj2⟩
        refine ⟨hI2, ?_⟩
        have : μ a2 w2 = Classical.choose (least hI2) := by simp only [μ]; exact dif_pos hI2
        rw [this]
        exact Nat.lt_succ_of_le ((Classical.choose_spec (least hI2)).2 k ⟨x2, hx1, hj2⟩)
      · rename_i hne
        refine wp_mono (ih x1 ex x' a w hx1 hj1) ?_
        rintro e a2 w2 ⟨rfl, hj2⟩
        cases ex with
        | nrm => exact absurd hx1 (hne x')
        | exit id => exact ⟨rfl, hj2⟩
        | ret => exact ⟨rfl, hj2⟩
  | exit id => intro x ex x' a w h hj; simp only [walk, Option.some.injEq, Prod.mk.injEq] at h; obtain ⟨rfl, rfl⟩ := h; exact wp_exit ⟨rfl, hj⟩
  | ret => intro x ex x' a w h hj; simp only [walk, Option.some.injEq, Prod.mk.injEq] at h; obtain ⟨rfl, rfl⟩ := h; exact wp_ret ⟨rfl, hj⟩
  | _ => intro x ex x' a w h hj; simp [walk] at h

end

end Go.Lgo

namespace Go.Lgo
open Go

/-- A frame's beginning: nothing is known of the temporaries; S is reserved. -/
theorem InvG.base {Γ : Ctx} {S : BSet} {E : SS} {ρ : Env} {a : Act} (hE : ∀ k, E k = ⟨0, .dead⟩) (hS : ∀ c, S c → Γ.fresh c) (hd : a.defers = []) (ht : a.tmps.size = Γ.N) :
    InvG Γ S E ρ a Γ.w0 (fun _ => []) (fun _ _ _ => False) (fun _ => 0) := by
  have hb : ∀ k id, ¬ (E k).k.isBox id := by
    rintro k id ⟨_, _, h⟩
    rw [hE] at h; cases h
  have hl : ∀ k, (E k).lds = [] := by intro k; simp [Ent.lds, hE, EK.lds]
  constructor
  · rfl
  · rfl
  · rfl
  · exact Nat.le_refl _
  · intros; rfl
  · exact hd
  · exact ht
  · intro k
    constructor
    · intro h; rw [hE] at h; cases h
    · intro h; rw [hE] at h; cases h
    · intro h; rw [hE] at h; cases h
    · intro t _; rw [hE]; trivial
    · intro ty id lds h; rw [hE] at h; cases h
    · intro j ld τ v x h; rw [hl] at h; simp at h
    · intro j c h; exact h.elim
    · intro j c h; exact h.elim
    · intro j ds id cid h; rw [hl] at h; simp at h
    · intro j m cid h; rw [hl] at h; simp at h
    · intro j s j' cid h; rw [hl] at h; simp at h
    · intro ty id lds h; rw [hE] at h; cases h
    · intro k' id off h; rw [hE] at h; cases h
    · intro s j id e off h; rw [hE] at h; cases h
    · intro v h; cases h
  · intro k j k' j' c h; exact h.elim
  · intro k id k' id' h; exact absurd h (hb k id)
  · intro k id k' j' _ h; exact h
  · intro c k j _ h; exact h
  · intro c k id _ h; exact absurd h (hb k id)
  · intro c h; exact .inl (hS c h)

/-- An argument as it is handed in: read (its leaves' masks do not matter), or owned. -/
inductive AI where
  | rd (ty : TypeId) (od : Opd)
  | own (ty e : TypeId) (ds : List Dsc) (od : Opd)

/-- One argument. own: it is given away. -/
def prArg (tt : TypeId → TI) (E : SE) (ty : TypeId) (own : Bool) (x : Operand) : Option (SE × AI) :=
  if own then
    match one tt ty with
    | some (.sl e) => match appRoot tt E e x with
      | some (.own s j ds, ox) => if Dsc.leAll ds (dsApp 1 (tt e).lv.length ds) = true then some (E.put s ⟨(E.get s).ver, (E.get s).k.setLds ((E.get s).lds.set j .dead)⟩, .own ty e ds ox) else none
      | some (.nil, ox) => some (E, .own ty e [] ox)
      | none => none
    | _ => none
  else match rdRow tt E (tt ty).lv (tt ty).agg x with
    | some (E1, _, od) => some (E1, .rd ty od)
    | none => none

/-- What is known of an argument. -/
def AIOK (Γ : Ctx) (X : BSet) (ρ : Env) (w : World) (v : Value) (Os : BSet) : AI → Prop
  | .rd ty od => (∀ c, ¬ Os c) ∧ ∃ vs : List Value, (v = if (Γ.tt ty).agg then .agg vs.toArray else vs.headD undef) ∧ vs.length = (Γ.tt ty).lv.length ∧ (od.get ρ).length = (Γ.tt ty).lv.length ∧ (∀ v, v ∈ vs → v.oneCell' = true) ∧
      ∀ (j : Nat) τ v x, (Γ.tt ty).lv[j]? = some τ → vs[j]? = some v → (od.get ρ)[j]? = some x → ∃ m, Rd Γ.tl w (Γ.FP X m) τ v x
  | .own ty e ds od => one Γ.tt ty = some (.sl e) ∧ ∃ l, od.get ρ = [l] ∧ v.oneCell' = true ∧ Own Γ.tl w (Γ.FP X) (.sl e) (.own (dsApp 1 (Γ.tt e).lv.length ds)) v l Os

theorem AIOK.mono {Γ : Ctx} {X X' : BSet} {ρ : Env} {w : World} {v : Value} {Os : BSet} {ai : AI} (h : AIOK Γ X ρ w v Os ai) (hX : ∀ c, X' c → X c) : AIOK Γ X' ρ w v Os ai := by
  cases ai with
  | rd ty od =>
    obtain ⟨h0, vs, h1, h2, h3, h4, h5⟩ := h
    refine ⟨h0, vs, h1, h2, h3, h4, fun j τ v x a b c => ?_⟩
    obtain ⟨m, hm⟩ := h5 j τ v x a b c
    exact ⟨m, hm.mono fun c o hc ho => ⟨ho, Ctx.FP_mono hX hc⟩⟩
  | own ty e ds od =>
    obtain ⟨h0, l, h1, h2, h3⟩ := h
    exact ⟨h0, l, h1, h2, h3.mono (fun m c o hc ho => ⟨ho, Ctx.FP_mono hX hc⟩) fun c o _ ho => ho⟩

theorem Own.oc {tl : TL} {w : World} {FP : Nat → BSet} {τ : Leaf} {d : Dsc} {v : Value} {x : L} {O : BSet} (h : Own tl w FP τ d v x O) : v.oneCell' = true := by
  cases h with
  | pub h _ => exact h.oc
  | nil => rfl
  | sl => rfl

section
variable {Γ : Ctx} {S : BSet} {E : SE} {ρ : Env} {a : Act} {w w' : World} {V : Nat → List Value} {O : Nat → Nat → BSet} {B : Nat → Nat}

/-- The root of an owned slice operand. -/
theorem appRoot_ok (h : InvG Γ S E.get ρ a w V O B) {x : Operand} {e : TypeId} {s j : Nat} {ds : List Dsc} {ox : Opd} (hx : appRoot Γ.tt E e x = some (.own s j ds, ox)) :
    ∃ v l id cid, a.eval x = v ∧ ox.get ρ = [l] ∧ (E.get s).lds[j]? = some (.own ds id cid) ∧ (V s)[j]? = some v ∧ (ρ s)[j]? = some l ∧ ((E.get s).k.lv Γ.tt)[j]? = some (.sl e) ∧
      Own Γ.tl w (Γ.FP (XS S E.get O B)) (.sl e) (.own ds) v l (O s j) := by
  obtain ⟨tx, rfl⟩ := appRoot_own hx
  simp only [appRoot] at hx
  split at hx
  · rename_i e' sx s' j' ds0 id cid hs
    split at hx
    · rename_i hee
      subst hee
      cases hx
      simp only [slcRS] at hs
      split at hs
      · rename_i ty' ld he
        split at hs
        · rename_i e0 ho1
          simp only [Option.map_eq_some_iff, Prod.mk.injEq] at hs
          obtain ⟨rs, hres, rfl, rfl, rfl⟩ := hs
          obtain ⟨v, l, ld', h1, h2, h3, h4, h5, _⟩ := h.val1 he ho1
          cases h1
          obtain ⟨_, _, g3⟩ := one_spec ho1
          have hl0 : (E.get (2 * tx)).lds[0]? = some ld := by simp [Ent.lds, he, EK.lds]
          have hτ0 : ((E.get (2 * tx)).k.lv Γ.tt)[0]? = some (.sl e0) := by simp [he, EK.lv, g3]
          have hrow : (Opd.v (2 * tx) 0 1).get ρ = [l] := by simp [Opd.get, h3]
          have hroot : (E.get s).lds[j]? = some (.own ds id cid) ∧ (V s)[j]? = some v ∧ (ρ s)[j]? = some l ∧ ((E.get s).k.lv Γ.tt)[j]? = some (.sl e0) := by
            cases ld with
            | own ds' id' cid' => cases hres; exact ⟨hl0, by rw [h2]; rfl, by rw [h3]; rfl, hτ0⟩
            | pub m cid' => cases hres
            | dead => cases hres
            | alias s1 j1 cid1 =>
              simp only [resLd] at hres
              split at hres
              · rename_i ds' id' cid' hl'
                split at hres
                · rename_i hcc; subst hcc; cases hres
                  obtain ⟨k1, k2, k3⟩ := h5 (.inl ⟨_, _, hl'⟩)
                  exact ⟨hl', k1, k2, k3⟩
                · cases hres
              · split at hres <;> cases hres
              · cases hres
          obtain ⟨r1, r2, r2', r3⟩ := hroot
          exact ⟨v, l, id, cid, h4, hrow, r1, r2, r2', r3, (h.slot s).leaf j _ _ _ _ r1 r3 r2 r2'⟩
        · cases hs
      · cases hs
    · cases hx
  · cases hx

/-- An owned leaf is held for less, then taken. -/
theorem InvG.takeLess (h : InvG Γ S E.get ρ a w V O B) {s j : Nat} {ds ds' : List Dsc} {id cid : Nat} (hl : (E.get s).lds[j]? = some (.own ds id cid)) (hle : Dsc.leAll ds ds' = true) :
    ∃ O2, InvG Γ (fun c => S c ∨ O2 s j c) (E.put s ⟨(E.get s).ver, (E.get s).k.setLds ((E.get s).lds.set j .dead)⟩).get ρ a w V (minus O2 s j) B ∧
      (∀ c, XS (fun c => S c ∨ O2 s j c) (E.put s ⟨(E.get s).ver, (E.get s).k.setLds ((E.get s).lds.set j .dead)⟩).get (minus O2 s j) B c → XS S E.get O B c) ∧ (∀ k j c, O2 k j c → O k j c) ∧
      ∀ τ v x, ((E.get s).k.lv Γ.tt)[j]? = some τ → (V s)[j]? = some v → (ρ s)[j]? = some x →
        Own Γ.tl w (Γ.FP (XS (fun c => S c ∨ O2 s j c) (E.put s ⟨(E.get s).ver, (E.get s).k.setLds ((E.get s).lds.set j .dead)⟩).get (minus O2 s j) B)) τ (.own ds') v x (O2 s j) := by
  have hj := (List.getElem?_eq_some_iff.1 hl).1
  have hh := EK.holds_of_lt hj
  obtain ⟨O2, hI2, hsub⟩ := h.less' hl hle
  obtain ⟨E2, hE2⟩ : ∃ E2 : SS, E2 = SS.setLd E.get s j (.own ds' id cid) := ⟨_, rfl⟩
  rw [← hE2] at hI2
  have hk2 : (E2 s).k = (E.get s).k.setLds ((E.get s).lds.set j (.own ds' id cid)) := by rw [hE2]; unfold SS.setLd; rw [upd_same]
  have hv2 : (E2 s).ver = (E.get s).ver := by rw [hE2]; unfold SS.setLd; rw [upd_same]
  have hlds2 : (E2 s).lds = (E.get s).lds.set j (.own ds' id cid) := by
    show (E2 s).k.lds = _
    rw [hk2, EK.setLds_lds _ hh]
  have hl2 : (E2 s).lds[j]? = some (.own ds' id cid) := by rw [hlds2, List.getElem?_set_self hj]
  have hlv2 : (E2 s).k.lv Γ.tt = (E.get s).k.lv Γ.tt := by rw [hk2]; exact EK.setLds_lv _ _
  have hh2 := EK.holds_of_lt (List.getElem?_eq_some_iff.1 hl2).1
  have hX2 : ∀ c, XS S E2 O2 B c → XS S E.get O B c := by
    rintro c (hs | ⟨k', j', hc⟩ | ⟨k', id', hc, h2⟩)
    · exact .inl hs
    · exact .inr (.inl ⟨_, _, hsub _ _ _ hc⟩)
    · refine .inr (.inr ⟨k', id', ?_, h2⟩)
      by_cases hkk : k' = s
      · subst hkk; rw [hk2] at hc; exact (EK.setLds_box _ _).1 hc
      · rw [hE2, SS.setLd_other _ hkk] at hc; exact hc
  have hI3 := hI2.take hl2
  have hE3 : (E.put s ⟨(E.get s).ver, (E.get s).k.setLds ((E.get s).lds.set j .dead)⟩).get = SS.setLd E2 s j .dead := by
    unfold SS.setLd
    rw [SE.get_put, hlds2, hk2, hv2, setLds_setLds, List.set_set, hE2]
    funext k'
    by_cases hkk : k' = s
    · subst hkk; rw [upd_same, upd_same]
    · rw [upd_ne _ _ hkk, upd_ne _ _ hkk, SS.setLd_other _ hkk]
  rw [← hE3] at hI3
  have hXs : ∀ c, XS (fun c => S c ∨ O2 s j c) (E.put s ⟨(E.get s).ver, (E.get s).k.setLds ((E.get s).lds.set j .dead)⟩).get (minus O2 s j) B c → XS S E2 O2 B c := by
    intro c hc
    rw [hE3] at hc
    exact XS_mono_take hh2 hc
  refine ⟨O2, hI3, fun c hc => hX2 c (hXs c hc), hsub, fun τ v x k1 k2 k3 => ?_⟩
  have hown : Own Γ.tl w (Γ.FP (XS S E2 O2 B)) τ (.own ds') v x (O2 s j) := (hI2.slot s).leaf j _ _ _ _ hl2 (by rw [hlv2]; exact k1) k2 k3
  exact hown.mono (fun m c o hc ho => ⟨ho, Ctx.FP_mono hXs hc⟩) fun c o _ ho => ho

theorem prArg_ok (h : InvG Γ S E.get ρ a w V O B) {ty : TypeId} {own : Bool} {x : Operand} {E1 : SE} {ai : AI} (hx : prArg Γ.tt E ty own x = some (E1, ai)) :
    ∃ (O1 : Nat → Nat → BSet) (Os : BSet), InvG Γ (fun c => S c ∨ Os c) E1.get ρ a w V O1 B ∧ (∀ c, XS (fun c => S c ∨ Os c) E1.get O1 B c → XS S E.get O B c) ∧ (∀ c, Os c → ¬ S c) ∧ (∀ c, Os c → Γ.fresh c) ∧ (∀ c, Os c → c < w.heap.size) ∧
      AIOK Γ (XS (fun c => S c ∨ Os c) E1.get O1 B) ρ w (a.eval x) Os ai := by
  have hnone : (fun c => S c ∨ (fun _ => False) c) = S := by funext c; simp
  unfold prArg at hx
  cases own with
  | true =>
    simp only [if_true] at hx
    split at hx
    · rename_i e hoty
      split at hx
      · rename_i s j ds ox hr
        simp only [Option.ite_none_right_eq_some, Option.some.injEq, Prod.mk.injEq] at hx
        obtain ⟨hle, rfl, rfl⟩ := hx
        obtain ⟨v, l, id, cid, e1, e2, e3, e4, e5, e6, e7⟩ := appRoot_ok h hr
        obtain ⟨O2, h1, hX, hsub, hown⟩ := h.takeLess e3 hle
        refine ⟨_, O2 s j, h1, hX, fun c hc hs => h.sown c s j hs (hsub _ _ _ hc), fun c hc => (h.slot s).fresh j c (hsub _ _ _ hc), fun c hc => h.lt_of_own (hsub _ _ _ hc), hoty, l, e2, by rw [e1]; exact e7.oc, ?_⟩
        rw [e1]
        exact hown _ _ _ e6 e4 e5
      · rename_i ox hr
        cases hx
        obtain ⟨rfl, rfl⟩ := appRoot_nil hr
        refine ⟨O, fun _ => False, by rw [hnone]; exact h, by rw [hnone]; exact fun c hc => hc, fun c hc => hc.elim, fun c hc => hc.elim, fun c hc => hc.elim, hoty, .l [], rfl, rfl, .nil fun c hc => hc⟩
      · cases hx
    · cases hx
  | false =>
    simp only [Bool.false_eq_true, if_false] at hx
    split at hx
    · rename_i E2 ms od hr
      cases hx
      obtain ⟨O1, h1, hs, vs, e1, e2, e3, e4, e5, e6⟩ := rdRow_ok' h hr
      refine ⟨O1, fun _ => False, by rw [hnone]; exact h1, by rw [hnone]; exact hs, fun c hc => hc.elim, fun c hc => hc.elim, fun c hc => hc.elim, fun c hc => hc, vs, e1, e2, e4, e5, fun j τ v x k1 k2 k3 => ?_⟩
      have hj := (List.getElem?_eq_some_iff.1 k1).1
      rw [hnone]
      exact ⟨_, e6 j (ms[j]'(by omega)) τ v x (by simp) k1 k2 k3⟩
    · cases hx

/-- All arguments. -/
def prArgs (tt : TypeId → TI) : SE → List (TypeId × Bool × Operand) → Option (SE × List AI)
  | E, [] => some (E, [])
  | E, (ty, own, x) :: xs => match prArg tt E ty own x with
    | some (E1, ai) => match prArgs tt E1 xs with
      | some (E2, ais) => some (E2, ai :: ais)
      | none => none
    | none => none

theorem prArgs_ok {xs : List (TypeId × Bool × Operand)} (h : InvG Γ S E.get ρ a w V O B) {E1 : SE} {ais : List AI} (hx : prArgs Γ.tt E xs = some (E1, ais)) :
    ∃ (O1 : Nat → Nat → BSet) (Os : Nat → BSet), InvG Γ (fun c => S c ∨ ∃ i, Os i c) E1.get ρ a w V O1 B ∧ (∀ c, XS (fun c => S c ∨ ∃ i, Os i c) E1.get O1 B c → XS S E.get O B c) ∧ (∀ i c, Os i c → ¬ S c ∧ Γ.fresh c ∧ c < w.heap.size) ∧ (∀ i j c, Os i c → Os j c → i = j) ∧
      ais.length = xs.length ∧ (∀ i c, Os i c → i < ais.length) ∧ ∀ (i : Nat) ty own x ai, xs[i]? = some (ty, own, x) → ais[i]? = some ai → AIOK Γ (XS (fun c => S c ∨ ∃ i, Os i c) E1.get O1 B) ρ w (a.eval x) (Os i) ai := by
  induction xs generalizing S E O ais with
  | nil =>
    simp only [prArgs, Option.some.injEq, Prod.mk.injEq] at hx
    obtain ⟨rfl, rfl⟩ := hx
    have hS : (fun c => S c ∨ ∃ i : Nat, (fun (_ : Nat) (_ : Nat) => False) i c) = S := by funext c; simp
    exact ⟨O, fun _ _ => False, by rw [hS]; exact h, by rw [hS]; exact fun c hc => hc, fun i c hc => hc.elim, fun i j c hc => hc.elim, rfl, fun i c hc => hc.elim, fun i ty own x ai hi => by simp at hi⟩
  | cons p xs ih =>
    obtain ⟨ty, own, x⟩ := p
    simp only [prArgs] at hx
    split at hx
    · rename_i E2 ai hp
      split at hx
      · rename_i E3 ais' hps
        cases hx
        obtain ⟨O2, Os0, h2, s2, d2, f2, l2, k2⟩ := prArg_ok h hp
        obtain ⟨O3, Os', h3, s3, g3, d3, len3, b3, k3⟩ := ih h2 hps
        let Os : Nat → BSet := fun i => match i with | 0 => Os0 | i + 1 => Os' i
        have hS : (fun c => S c ∨ ∃ i, Os i c) = fun c => (fun c => S c ∨ Os0 c) c ∨ ∃ i, Os' i c := by
          funext c
          apply propext
          constructor
          · rintro (h | ⟨i, h⟩)
            · exact .inl (.inl h)
            · cases i with
              | zero => exact .inl (.inr h)
              | succ i => exact .inr ⟨i, h⟩
          · rintro ((h | h) | ⟨i, h⟩)
            · exact .inl h
            · exact .inr ⟨0, h⟩
            · exact .inr ⟨i + 1, h⟩
        refine ⟨O3, Os, by rw [hS]; exact h3, by rw [hS]; exact fun c hc => s2 c (s3 c hc), ?_, ?_, by simp [len3], ?_, ?_⟩
        · intro i c hc
          cases i with
          | zero => exact ⟨d2 c hc, f2 c hc, l2 c hc⟩
          | succ i => obtain ⟨a1, a2, a3⟩ := g3 i c hc; exact ⟨fun hs => a1 (.inl hs), a2, a3⟩
        · intro i j c hi hj
          cases i with
          | zero =>
            cases j with
            | zero => rfl
            | succ j => exact absurd (.inr hi) (g3 j c hj).1
          | succ i =>
            cases j with
            | zero => exact absurd (.inr hj) (g3 i c hi).1
            | succ j => rw [d3 i j c hi hj]
        · intro i c hc
          cases i with
          | zero => simp
          | succ i => have := b3 i c hc; simp only [List.length_cons]; omega
        · intro i ty' own' x' ai' h1 h4
          cases i with
          | zero =>
            simp only [List.getElem?_cons_zero, Option.some.injEq, Prod.mk.injEq] at h1 h4
            obtain ⟨rfl, rfl, rfl⟩ := h1
            subst h4
            rw [hS]
            exact k2.mono s3
          | succ i =>
            rw [hS]
            exact k3 i ty' own' x' ai' (by simpa using h1) (by simpa using h4)
      · cases hx
    · cases hx

end

end Go.Lgo

namespace Go.Lgo
open Go

/-- The context of a callee's frame. X: what is the caller's own. S: what is given away. -/
def Ctx.sub (Γ : Ctx) (N : Nat) (w : World) (S X : BSet) : Ctx :=
  { P := Γ.P, N := N, tt := Γ.tt, w0 := w, C := S, CB := fun _ => False, A := fun _ c => ¬ X c ∧ (Γ.fresh c ∨ Γ.A 0 c) }

def Ctx.Flat (Γ : Ctx) : Prop := ∀ l, Γ.A l = Γ.A 0
theorem Ctx.sub_flat (Γ : Ctx) (N : Nat) (w : World) (S X : BSet) : (Γ.sub N w S X).Flat := fun _ => rfl

def AI.ty : AI → TypeId
  | .rd ty _ => ty
  | .own ty _ _ _ => ty
def AI.od : AI → Opd
  | .rd _ od => od
  | .own _ _ _ od => od
def AI.nls (tt : TypeId → TI) : AI → List NL
  | .rd ty _ => List.replicate (tt ty).lv.length (.pub 1)
  | .own _ e ds _ => [.own (dsApp 1 (tt e).lv.length ds)]

def setParams (tt : TypeId → TI) : SE → Nat → List AI → SE
  | E, _, [] => E
  | E, i, ai :: ais => setParams tt (setVal E i [ai.ty] false (ai.nls tt)) (i + 1) ais
def setRows (ρc : Env) : Env → Nat → List AI → Env
  | ρ, _, [] => ρ
  | ρ, i, ai :: ais => setRows ρc (upd ρ (2 * i) (ai.od.get ρc)) (i + 1) ais
def setMany : Array Value → Nat → List Value → Array Value
  | a, _, [] => a
  | a, i, v :: vs => setMany (a.setIfInBounds i v) (i + 1) vs

theorem setMany_size (a : Array Value) (i : Nat) (vs : List Value) : (setMany a i vs).size = a.size := by
  induction vs generalizing a i with
  | nil => rfl
  | cons v vs ih => simp [setMany, ih]
theorem setMany_get (a : Array Value) (i : Nat) (vs : List Value) (h : i + vs.length ≤ a.size) (k : Nat) : (setMany a i vs)[k]? = if i ≤ k ∧ k < i + vs.length then vs[k - i]? else a[k]? := by
  induction vs generalizing a i with
  | nil => simp only [setMany, List.length_nil, Nat.add_zero]; rw [if_neg (by omega)]
  | cons v vs ih =>
    simp only [List.length_cons] at h
    simp only [setMany, List.length_cons]
    rw [ih _ _ (by simp; omega)]
    by_cases h1 : i + 1 ≤ k ∧ k < i + 1 + vs.length
    · rw [if_pos h1, if_pos (by omega), show k - i = (k - (i + 1)) + 1 by omega, List.getElem?_cons_succ]
    · rw [if_neg h1]
      by_cases h2 : k = i
      · subst h2
        rw [if_pos (by omega), Nat.sub_self, List.getElem?_cons_zero, Array.getElem?_setIfInBounds_self_of_lt (by omega)]
      · rw [if_neg (by omega), Array.getElem?_setIfInBounds_ne (by omega)]

section
variable {Γ : Ctx} {X : BSet} {w : World}

theorem testBit_or_one (m : Nat) : (m ||| 1).testBit 0 = true := by rw [Nat.testBit_or]; simp
theorem maskSub_one {M : Nat} (h : maskSub 1 M = true) : M.testBit 0 = true := maskSub_bit h (by decide)

/-- What the caller may read, the callee may. -/
theorem Ctx.sub_FP {N : Nat} {S : BSet} (hf : Γ.Flat) {X' : BSet} (hX' : ∀ c, X' c → X c) {m M c : Nat} (hM : M.testBit 0 = true) (h : Γ.FP X m c) : (Γ.sub N w S X).FP X' M c := by
  refine ⟨fun hx => h.1 (hX' c hx), .inr ⟨0, hM, h.1, ?_⟩⟩
  rcases h.2 with h2 | ⟨l, _, h2⟩
  · exact .inl h2
  · rw [hf l] at h2; exact .inr h2

theorem setParams_ok {ρc : Env} (hf : Γ.Flat) {N : Nat} {S0 : BSet} {S : BSet} {E : SE} {ρ : Env} {a : Act} {V : Nat → List Value} {O : Nat → Nat → BSet} {B : Nat → Nat} {ais : List AI} {vs : List Value} {Os : Nat → BSet}
    (h : InvG (Γ.sub N w S0 X) S E.get ρ a w V O B) (i : Nat) (hN : i + ais.length ≤ N) (hl : vs.length = ais.length) (hS : ∀ c, S c ↔ ∃ j, j < ais.length ∧ Os j c) (hS0 : ∀ c, S c → S0 c) (hSX : ∀ c, S c → X c) (hXX : ∀ c, XS S E.get O B c → X c)
    (hd : ∀ j k c, Os j c → Os k c → j = k)
    (hai : ∀ (j : Nat) ai v, ais[j]? = some ai → vs[j]? = some v → AIOK Γ X ρc w v (Os j) ai) :
    Inv' (Γ.sub N w S0 X) (setParams Γ.tt E i ais) (setRows ρc ρ i ais) { a with tmps := setMany a.tmps i vs } w := by
  induction ais generalizing S E ρ a V O B vs Os i with
  | nil =>
    cases vs with
    | cons v vs => simp at hl
    | nil =>
      have hS' : S = none' := by
        funext c
        apply propext
        constructor
        · intro hc; obtain ⟨j, hj, _⟩ := (hS c).1 hc; simp at hj
        · exact fun hc => hc.elim
      subst hS'
      exact ⟨V, O, B, h⟩
  | cons ai ais ih =>
    cases vs with
    | nil => simp at hl
    | cons v vs =>
      simp only [List.length_cons] at hN hl
      have hak := hai 0 ai v rfl rfl
      have hts := h.tsz
      have hN' : (Γ.sub N w S0 X).N = N := rfl
      -- the leaves
      have hcell : ∃ us : List Value, packs Γ.tt [ai.ty] false us = v ∧ us.length = (ai.nls Γ.tt).length ∧ (ai.od.get ρc).length = (ai.nls Γ.tt).length ∧ (Γ.tt ai.ty).lv.length = (ai.nls Γ.tt).length ∧ (∀ u, u ∈ us → u.oneCell' = true) ∧
          (∀ c, Os 0 c → ∃ ds, (ai.nls Γ.tt)[0]? = some (.own ds)) ∧
          ∀ (j : Nat) nl τ u x, (ai.nls Γ.tt)[j]? = some nl → (Γ.tt ai.ty).lv[j]? = some τ → us[j]? = some u → (ai.od.get ρc)[j]? = some x →
            NLOK (Γ.sub N w S0 X) (XS S E.get O B) E.get ρ w w V none' (2 * i) τ nl u x (fun c => j = 0 ∧ Os 0 c) := by
        cases ai with
        | rd ty od =>
          obtain ⟨h0, us, g1, g2, g3, g4, g5⟩ := hak
          refine ⟨us, ?_, by simp [AI.nls, g2], by simp [AI.nls, AI.od, g3], by simp [AI.nls, AI.ty], g4, fun c hc => absurd hc (h0 c), ?_⟩
          · rw [g1]
            simp only [packs, Bool.false_eq_true, if_false, packL, List.headD_cons, AI.ty]
            rw [List.take_of_length_le (by omega)]
            rfl
          · intro j nl τ u x k1 k2 k3 k4
            simp only [AI.nls, List.getElem?_replicate] at k1
            split at k1
            · cases k1
              obtain ⟨m, hm⟩ := g5 j τ u x k2 k3 k4
              exact hm.mono fun c o hc ho => ⟨ho, .inl ⟨Ctx.sub_FP hf hXX (by decide) hc, (Array.getElem?_eq_some_iff.1 ho).1⟩⟩
            · cases k1
        | own ty e ds od =>
          obtain ⟨h0, l, g1, g2, g3⟩ := hak
          obtain ⟨_, _, q3⟩ := one_spec h0
          refine ⟨[v], packs_one h0 v, rfl, by simp [AI.nls, AI.od, g1], by simp [AI.nls, AI.ty, q3], ?_, fun c _ => ⟨_, rfl⟩, ?_⟩
          · intro u hu; simp only [List.mem_singleton] at hu; rw [hu]; exact g2
          · intro j nl τ u x k1 k2 k3 k4
            cases j with
            | succ j => simp [AI.nls] at k1
            | zero =>
              simp only [AI.nls, List.getElem?_cons_zero, Option.some.injEq] at k1 k3
              simp [AI.ty, q3] at k2
              simp [AI.od, g1] at k4
              subst k1 k2 k3 k4
              show Own _ _ _ _ _ _ _ (fun c => (0 : Nat) = 0 ∧ Os 0 c)
              have hOe : (fun c => (0 : Nat) = 0 ∧ Os 0 c) = Os 0 := by funext c; simp
              rw [hOe]
              cases g3 with
              | nil hO => exact .nil hO
              | sl Vf Xf G hb hs hlc hcap hcc hr hdd hbG hO =>
                refine .sl Vf Xf G hb hs hlc hcap hcc (fun p q τ' hp hq => ?_) hdd hbG hO
                obtain ⟨M, hM, hmM⟩ := dsApp_get 1 (Γ.tt e).lv.length ds q (List.getElem?_eq_some_iff.1 hq).1
                have := hr p q τ' hp hq
                rw [hM] at this ⊢
                obtain ⟨f1, f2⟩ := this.unpub
                exact .pub (f1.mono fun c o hc ho => ⟨ho, .inl ⟨Ctx.sub_FP hf hXX (maskSub_one hmM) hc, (Array.getElem?_eq_some_iff.1 ho).1⟩⟩) f2
      obtain ⟨us, p1, p2, p3, p4, p5, p6, p7⟩ := hcell
      let S1 : BSet := fun c => ∃ j, j < ais.length ∧ Os (j + 1) c
      have hS1 : ∀ c, S1 c → S c := by
        rintro c ⟨j, hj, hc⟩
        exact (hS c).2 ⟨j + 1, by simp only [List.length_cons]; omega, hc⟩
      have hO0S : ∀ c, Os 0 c → S c := fun c hc => (hS c).2 ⟨0, by simp, hc⟩
      have h1 := h.setTmp (S' := S1) (w' := w) i [ai.ty] false (ai.nls Γ.tt) us (ai.od.get ρc) (fun j c => j = 0 ∧ Os 0 c) none' rfl rfl rfl (Nat.le_refl _) (fun c o ho _ => ho) (fun c hc => .inl (hS1 c hc)) (fun j c hc => .inl (hO0S c hc.2))
        (fun c hc => hc.elim) (fun j j' c h1 h2 => by rw [h1.1, h2.1])
        (fun c j hc h2 => by obtain ⟨q, _, hq⟩ := hc; have := hd _ _ _ hq h2.2; omega)
        (fun j c hc => .inr (hS0 c (hO0S c hc.2))) (fun c hc => .inl (.inr (hS0 c (hS1 c hc))))
        (fun j c hc => by obtain ⟨rfl, hc⟩ := hc; exact p6 c hc) p5 (by omega) p2 p3 (by simp only [List.flatMap_cons, List.flatMap_nil, List.append_nil]; exact p4)
        (fun j nl τ u x k1 k2 k3 k4 => p7 j nl τ u x k1 (show ((Γ.sub N w S0 X).tt ai.ty).lv[j]? = some τ by simpa using k2) k3 k4)
      have hpk : packs (Γ.sub N w S0 X).tt [ai.ty] false us = v := p1
      rw [hpk] at h1
      have hE : (setVal E i [ai.ty] false (ai.nls Γ.tt)).get = upd E.get (2 * i) ⟨(E.get (2 * i)).ver + 1, .val [ai.ty] false ((ai.nls Γ.tt).map (NL.ld ((E.get (2 * i)).ver + 1)))⟩ := by unfold setVal; exact SE.get_put _ _ _
      rw [← hE] at h1
      refine ih (Os := fun j => Os (j + 1)) h1 (i + 1) (by omega) (by omega) (fun c => Iff.rfl) (fun c hc => hS0 c (hS1 c hc)) (fun c hc => hSX c (hS1 c hc)) ?_ (fun j k c h1 h2 => by have := hd _ _ _ h1 h2; omega) (fun j ai' v' k1 k2 => hai (j + 1) ai' v' (by simpa using k1) (by simpa using k2))
      intro c hc
      rw [hE] at hc
      rcases XS_upd hc with g1 | ⟨j, g1⟩ | ⟨⟨id, _, _, g1⟩, _⟩ | ⟨k, j, _, g1⟩ | ⟨k, id, _, g1, g2⟩
      · exact hSX c (hS1 c g1)
      · exact hSX c (hO0S c g1.2)
      · cases g1
      · exact hXX c (.inr (.inl ⟨k, j, g1⟩))
      · exact hXX c (.inr (.inr ⟨k, id, g1, g2⟩))

end

end Go.Lgo

namespace Go.Lgo
open Go

/-- A leaf that is an alias of an owned leaf, whatever slot, becomes the owner. -/
def giveIf (E : SE) (t j : Nat) : SE :=
  match (E.get t).lds[j]? with
  | some (.alias s j' cid) =>
    match (E.get s).lds[j']? with
    | some (.own ds _ cid') =>
      if cid = cid' ∧ t ≠ s then
        let E1 := E.put s ⟨(E.get s).ver, (E.get s).k.setLds ((E.get s).lds.set j' .dead)⟩
        E1.put t ⟨(E1.get t).ver + 1, (E1.get t).k.setLds ((E1.get t).lds.set j ((NL.own ds).ld ((E1.get t).ver + 1)))⟩
      else E
    | _ => E
  | _ => E
def giveAll (E : SE) (t : Nat) : Nat → SE
  | 0 => E
  | n + 1 => giveIf (giveAll E t n) t n

section
variable {Γ : Ctx} {S : BSet} {E : SE} {ρ : Env} {a : Act} {w w' : World} {V : Nat → List Value} {O : Nat → Nat → BSet} {B : Nat → Nat}

theorem Inv'.giveIf (h : Inv' Γ E ρ a w) (t j : Nat) : Inv' Γ (giveIf E t j) ρ a w := by
  unfold Lgo.giveIf
  split
  · rename_i s j' cid ht
    split
    · rename_i ds id cid' hs
      split
      · rename_i hc
        obtain ⟨rfl, hne⟩ := hc
        obtain ⟨V, O, B, hI⟩ := h
        obtain ⟨O', h2⟩ := hI.xfer hs ht hne
        refine ⟨V, O', B, ?_⟩
        have e1 : (E.put s ⟨(E.get s).ver, (E.get s).k.setLds ((E.get s).lds.set j' .dead)⟩).get = SS.setLd E.get s j' .dead := SE.get_put _ _ _
        simp only []
        rw [SE.get_put, e1]
        exact h2
      · exact h
    · exact h
  · exact h
theorem Inv'.giveAll (h : Inv' Γ E ρ a w) (t n : Nat) : Inv' Γ (giveAll E t n) ρ a w := by
  induction n with
  | zero => exact h
  | succ n ih => exact ih.giveIf t n

end

/-- Where a result lies: its slot and its type. -/
def resSlot (tt : TypeId → TI) (E : SE) : ResultVar → Option (Nat × TypeId)
  | .tmp t => match (E.get (2 * t)).k with
    | .val [ty] false _ => some (2 * t, ty)
    | _ => none
  | .cell a ty => match (E.get (2 * a)).k with
    | .bp k id off => match (E.get k).k with
      | .box ty' id' _ => if id = id' ∧ ty = ty' ∧ off = 0 ∧ (tt ty).ok = true then some (k, ty) else none
      | _ => none
    | _ => none
def resSlots (tt : TypeId → TI) (E : SE) : List ResultVar → Option (List (Nat × TypeId))
  | [] => some []
  | r :: rs => match resSlot tt E r, resSlots tt E rs with
    | some p, some ps => some (p :: ps)
    | _, _ => none
def giveSlots (E : SE) : List (Nat × TypeId) → SE
  | [] => E
  | p :: ps => giveSlots (giveAll E p.1 (E.get p.1).lds.length) ps
def leafNL (E : SE) (ld : LD) : Option NL :=
  match ld with
  | .own ds _ _ => some (.own ds)
  | ld => (rdMask E ld).map NL.pub
def leafNLs (E : SE) : List LD → Option (List NL)
  | [] => some []
  | ld :: lds => match leafNL E ld, leafNLs E lds with
    | some n, some ns => some (n :: ns)
    | _, _ => none
def slotNLs (E : SE) : List (Nat × TypeId) → Option (List NL)
  | [] => some []
  | p :: ps => match leafNLs E (E.get p.1).lds, slotNLs E ps with
    | some n, some ns => some (n ++ ns)
    | _, _ => none

theorem leafNLs_spec {E : SE} {lds : List LD} {ns : List NL} (h : leafNLs E lds = some ns) : ns.length = lds.length ∧ ∀ (j : Nat) n, ns[j]? = some n → ∃ ld, lds[j]? = some ld ∧ leafNL E ld = some n := by
  induction lds generalizing ns with
  | nil => simp only [leafNLs, Option.some.injEq] at h; subst h; simp
  | cons ld lds ih =>
    simp only [leafNLs] at h
    split at h
    · rename_i m ms' h1 h2
      cases h
      obtain ⟨g1, g2⟩ := ih h2
      refine ⟨by simp [g1], fun j m' hm => ?_⟩
      cases j with
      | zero => simp only [List.getElem?_cons_zero, Option.some.injEq] at hm; subst hm; exact ⟨ld, rfl, h1⟩
      | succ j => simpa using g2 j m' (by simpa using hm)
    · cases h

/-- Leaves laid behind one another, as they come back. -/
structure LF (Γ : Ctx) (X : BSet) (E : SS) (ρ : Env) (w w' : World) (V : Nat → List Value) (N : BSet) (k0 : Nat) (Z : BSet) (lv : List Leaf) (nls : List NL) (vs : List Value) (row : Row) (Os : Nat → BSet) : Prop where
  l1 : vs.length = nls.length
  l2 : row.length = nls.length
  l3 : lv.length = nls.length
  oc : ∀ v, v ∈ vs → v.oneCell' = true
  own : ∀ j c, Os j c → (∃ ds, nls[j]? = some (.own ds)) ∧ Z c
  dis : ∀ j j' c, Os j c → Os j' c → j = j'
  leaf : ∀ (j : Nat) nl τ v x, nls[j]? = some nl → lv[j]? = some τ → vs[j]? = some v → row[j]? = some x → NLOK Γ X E ρ w w' V N k0 τ nl v x (Os j)

section
variable {Γ : Ctx} {X : BSet} {E : SS} {ρ : Env} {w w' : World} {V : Nat → List Value} {N : BSet} {k0 : Nat} {Z1 Z2 : BSet}

theorem LF.app {lv1 lv2 : List Leaf} {n1 n2 : List NL} {v1 v2 : List Value} {r1 r2 : Row} {O1 O2 : Nat → BSet} (h1 : LF Γ X E ρ w w' V N k0 Z1 lv1 n1 v1 r1 O1) (h2 : LF Γ X E ρ w w' V N k0 Z2 lv2 n2 v2 r2 O2) (hZ : ∀ c, Z1 c → ¬ Z2 c) :
    LF Γ X E ρ w w' V N k0 (fun c => Z1 c ∨ Z2 c) (lv1 ++ lv2) (n1 ++ n2) (v1 ++ v2) (r1 ++ r2) (fun j => if j < n1.length then O1 j else O2 (j - n1.length)) := by
  constructor
  · simp [h1.l1, h2.l1]
  · simp [h1.l2, h2.l2]
  · simp [h1.l3, h2.l3]
  · intro v hv
    rcases List.mem_append.1 hv with hv | hv
    · exact h1.oc v hv
    · exact h2.oc v hv
  · intro j c hc
    by_cases hj : j < n1.length
    · simp only [hj, if_true] at hc
      obtain ⟨⟨ds, g⟩, z⟩ := h1.own j c hc
      exact ⟨⟨ds, by rw [List.getElem?_append_left hj]; exact g⟩, .inl z⟩
    · simp only [hj, if_false] at hc
      obtain ⟨⟨ds, g⟩, z⟩ := h2.own _ c hc
      exact ⟨⟨ds, by rw [List.getElem?_append_right (by omega)]; exact g⟩, .inr z⟩
  · intro j j' c hj hj'
    by_cases e : j < n1.length
    · by_cases e' : j' < n1.length
      · simp only [e, e', if_true] at hj hj'; exact h1.dis j j' c hj hj'
      · simp only [e, e', if_true, if_false] at hj hj'
        exact absurd (h2.own _ c hj').2 (hZ c (h1.own _ c hj).2)
    · by_cases e' : j' < n1.length
      · simp only [e, e', if_true, if_false] at hj hj'
        exact absurd (h2.own _ c hj).2 (hZ c (h1.own _ c hj').2)
      · simp only [e, e', if_false] at hj hj'
        have := h2.dis _ _ c hj hj'
        omega
  · intro j nl τ v x k1 k2 k3 k4
    have g1 := h1.l1; have g2 := h1.l2; have g3 := h1.l3
    by_cases e : j < n1.length
    · simp only [e, if_true]
      rw [List.getElem?_append_left e] at k1
      rw [List.getElem?_append_left (by omega)] at k2 k3 k4
      exact h1.leaf j nl τ v x k1 k2 k3 k4
    · simp only [e, if_false]
      rw [List.getElem?_append_right (by omega)] at k1 k2 k3 k4
      rw [g3] at k2
      rw [g1] at k3
      rw [g2] at k4
      exact h2.leaf _ nl τ v x k1 k2 k3 k4

end

section
variable {Γ : Ctx} {S Xc : BSet} {Ec : SE} {ρc : Env} {ac : Act} {Vc : Nat → List Value} {Oc : Nat → Nat → BSet} {Bc : Nat → Nat} {N : Nat} {E : SE} {ρ : Env} {a : Act} {w w' : World} {V : Nat → List Value} {O : Nat → Nat → BSet} {B : Nat → Nat}

/-- What the callee may read when it ends, the caller may. -/
theorem sub_back (hf : Γ.Flat) {X' : BSet} {m c : Nat} (h : (Γ.sub N w S (XS S Ec.get Oc Bc)).FP X' m c) : GF Γ (XS S Ec.get Oc Bc) w (fun c => (w.heap.size ≤ c ∨ S c) ∧ ¬ X' c) m c := by
  obtain ⟨h1, h2⟩ := h
  rcases h2 with (h2 | h2) | ⟨l, hl, h2, h3⟩
  · exact .inr ⟨.inl h2, h1⟩
  · exact .inr ⟨.inr h2, h1⟩
  · by_cases hlt : c < w.heap.size
    · refine .inl ⟨⟨h2, ?_⟩, hlt⟩
      rcases h3 with h3 | h3
      · exact .inl h3
      · exact .inr ⟨l, hl, by rw [hf l]; exact h3⟩
    · exact .inr ⟨.inl (by omega), h1⟩

theorem slot_LF (hf : Γ.Flat) (hr : InvG (Γ.sub N w S (XS S Ec.get Oc Bc)) none' E.get ρ a w' V O B) {k k0 : Nat} {nls : List NL} (hh : (E.get k).k.holds = true) (hn : leafNLs E (E.get k).lds = some nls) :
    LF Γ (XS S Ec.get Oc Bc) Ec.get ρc w w' Vc (fun c => (w.heap.size ≤ c ∨ S c) ∧ ¬ XS none' E.get O B c) k0 (fun c => ∃ j, O k j c) ((E.get k).k.lv Γ.tt) nls (V k) (ρ k) (fun j c => O k j c) := by
  obtain ⟨l1, l2, l3⟩ := hr.lens hh
  obtain ⟨m1, m2⟩ := leafNLs_spec hn
  have htt : ∀ e : EK, e.lv (Γ.sub N w S (XS S Ec.get Oc Bc)).tt = e.lv Γ.tt := fun _ => rfl
  rw [htt] at l1 l2 l3
  constructor
  · omega
  · omega
  · omega
  · exact (hr.slot k).oc
  · intro j c hc
    obtain ⟨ds, id, cid, hl⟩ := (hr.slot k).own j c hc
    have hj := (List.getElem?_eq_some_iff.1 hl).1
    have hnj : nls[j]? = some (nls[j]'(by omega)) := by simp
    obtain ⟨ld, g1, g2⟩ := m2 j _ hnj
    have g1' : (E.get k).lds[j]? = some ld := g1
    rw [hl] at g1'
    cases g1'
    simp only [leafNL, Option.some.injEq] at g2
    exact ⟨⟨ds, by rw [hnj, ← g2]⟩, j, hc⟩
  · intro j j' c h1 h2; exact (hr.disj _ _ _ _ _ h1 h2).2
  · intro j nl τ v x k1 k2 k3 k4
    obtain ⟨ld, g1, g2⟩ := m2 j nl k1
    have hlk := (hr.slot k).leaf j ld τ v x g1 k2 k3 k4
    cases ld with
    | own ds id cid =>
      simp only [leafNL, Option.some.injEq] at g2
      subst g2
      exact Own.mono hlk (fun m c o hc ho => ⟨ho, sub_back hf hc⟩) fun c o _ ho => ho
    | pub m cid =>
      simp only [leafNL, rdMask, Option.map_some, Option.some.injEq] at g2
      subst g2
      exact Rd.mono hlk fun c o hc ho => ⟨ho, sub_back hf hc⟩
    | alias s j' cid =>
      simp only [leafNL, Option.map_eq_some_iff] at g2
      obtain ⟨m, hm, rfl⟩ := g2
      have := hr.rdMask g1 hm k2 k3 k4
      exact this.mono fun c o hc ho => ⟨ho, sub_back hf hc⟩
    | dead => simp [leafNL, rdMask] at g2

end

end Go.Lgo

namespace Go.Lgo
open Go

def nodup : List Nat → Bool
  | [] => true
  | k :: ks => !(ks.any fun k' => Nat.beq k k') && nodup ks

section
variable {Γ : Ctx} {S : BSet} {Ec : SE} {ρc : Env} {ac : Act} {Vc : Nat → List Value} {Oc : Nat → Nat → BSet} {Bc : Nat → Nat} {N : Nat} {E : SE} {ρ : Env} {a : Act} {w w' : World} {V : Nat → List Value} {O : Nat → Nat → BSet} {B : Nat → Nat}

/-- A result's slot is right. -/
def SlotTy (tt : TypeId → TI) (E : SE) (p : Nat × TypeId) : Prop := (E.get p.1).k.holds = true ∧ (E.get p.1).k.lv tt = (tt p.2).lv

theorem resSlot_ty {tt : TypeId → TI} {r : ResultVar} {p : Nat × TypeId} (h : resSlot tt E r = some p) : SlotTy tt E p := by
  cases r with
  | tmp t =>
    simp only [resSlot] at h
    split at h
    · rename_i ty lds he
      cases h
      exact ⟨by simp [he, EK.holds], by simp [he, EK.lv]⟩
    · cases h
  | cell c ty =>
    simp only [resSlot] at h
    split at h
    · rename_i k id off hk
      split at h
      · rename_i ty' id' lds hb
        simp only [Option.ite_none_right_eq_some, Option.some.injEq] at h
        obtain ⟨⟨rfl, rfl, rfl, _⟩, rfl⟩ := h
        exact ⟨by simp [hb, EK.holds], by simp [hb, EK.lv]⟩
      · cases h
    · cases h

theorem slots_LF (hf : Γ.Flat) (hr : InvG (Γ.sub N w S (XS S Ec.get Oc Bc)) none' E.get ρ a w' V O B) {k0 : Nat} {ps : List (Nat × TypeId)} {nls : List NL} (hps : ∀ p, p ∈ ps → SlotTy Γ.tt E p) (hn : slotNLs E ps = some nls) (hd : nodup (ps.map Prod.fst) = true) :
    ∃ Os : Nat → BSet, LF Γ (XS S Ec.get Oc Bc) Ec.get ρc w w' Vc (fun c => (w.heap.size ≤ c ∨ S c) ∧ ¬ XS none' E.get O B c) k0 (fun c => ∃ p, p ∈ ps ∧ ∃ j, O p.1 j c) (ps.flatMap fun p => (Γ.tt p.2).lv) nls (ps.flatMap fun p => V p.1) (ps.flatMap fun p => ρ p.1) Os := by
  induction ps generalizing nls with
  | nil =>
    simp only [slotNLs, Option.some.injEq] at hn
    subst hn
    exact ⟨fun _ _ => False, ⟨rfl, rfl, rfl, fun v hv => by simp at hv, fun _ _ h => h.elim, fun _ _ _ h => h.elim, fun j nl τ v x h => by simp at h⟩⟩
  | cons p ps ih =>
    simp only [slotNLs] at hn
    split at hn
    · rename_i n1 n2 h1 h2
      cases hn
      simp only [List.map_cons, nodup, Bool.and_eq_true, Bool.not_eq_eq_eq_not, Bool.not_true, List.any_eq_false] at hd
      obtain ⟨d1, d2⟩ := hd
      obtain ⟨Os2, L2⟩ := ih (fun q hq => hps q (List.mem_cons_of_mem _ hq)) h2 d2
      obtain ⟨t1, t2⟩ := hps p List.mem_cons_self
      have L1 := slot_LF (ρc := ρc) (Vc := Vc) (k0 := k0) hf hr t1 h1
      rw [t2] at L1
      have hZ : ∀ c, (∃ j, O p.1 j c) → ¬ ∃ q, q ∈ ps ∧ ∃ j, O q.1 j c := by
        rintro c ⟨j, hj⟩ ⟨q, hq, j', hj'⟩
        have e := (hr.disj _ _ _ _ _ hj hj').1
        have := d1 q.1 (List.mem_map_of_mem hq)
        rw [← e, Nat.beq_refl] at this
        exact this rfl
      have L := L1.app L2 hZ
      refine ⟨fun j => if j < n1.length then fun c => O p.1 j c else Os2 (j - n1.length), ?_⟩
      have hZe : (fun c => (∃ j, O p.1 j c) ∨ ∃ q, q ∈ ps ∧ ∃ j, O q.1 j c) = fun c => ∃ q, q ∈ p :: ps ∧ ∃ j, O q.1 j c := by
        funext c
        simp
      simp only [List.flatMap_cons]
      rw [← hZe]
      exact L
    · cases hn

/-- **A call comes back**: the caller's state. -/
theorem callRet (hf : Γ.Flat) (hc : InvG Γ S Ec.get ρc ac w Vc Oc Bc) (hS : ∀ c, S c → Γ.fresh c) (hr : InvG (Γ.sub N w S (XS S Ec.get Oc Bc)) none' E.get ρ a w' V O B) {t : Nat} (ht : t < Γ.N) {ps : List (Nat × TypeId)} {nls : List NL}
    (hps : ∀ p, p ∈ ps → SlotTy Γ.tt E p) (hn : slotNLs E ps = some nls) (hd : nodup (ps.map Prod.fst) = true) (tup : Bool) :
    Inv' Γ (setVal Ec t (ps.map Prod.snd) tup nls) (upd ρc (2 * t) (ps.flatMap fun p => ρ p.1)) { ac with tmps := ac.tmps.setIfInBounds t (packs Γ.tt (ps.map Prod.snd) tup (ps.flatMap fun p => V p.1)) } w' := by
  obtain ⟨Os, L⟩ := slots_LF (ρc := ρc) (Vc := Vc) (k0 := 2 * t) hf hr hps hn hd
  have hts := hc.tsz
  have hOX : ∀ j c, Os j c → XS none' E.get O B c := by
    intro j c h
    obtain ⟨_, p, _, j', hj'⟩ := L.own j c h
    exact .inr (.inl ⟨_, _, hj'⟩)
  have hOf : ∀ j c, Os j c → w.heap.size ≤ c ∨ S c := by
    intro j c h
    obtain ⟨_, p, _, j', hj'⟩ := L.own j c h
    exact (hr.slot _).fresh j' c hj'
  have hfr : ∀ c, (w.heap.size ≤ c ∨ S c) → Γ.fresh c := by
    rintro c (h | h)
    · exact .inl (Nat.le_trans hc.size h)
    · exact hS c h
  have hlv : ((ps.map Prod.snd).flatMap fun t => (Γ.tt t).lv) = ps.flatMap fun p => (Γ.tt p.2).lv := by rw [List.flatMap_map]
  have h1 := hc.setTmp (S' := none') (w' := w') t (ps.map Prod.snd) tup nls (ps.flatMap fun p => V p.1) (ps.flatMap fun p => ρ p.1) Os (fun c => (w.heap.size ≤ c ∨ S c) ∧ ¬ XS none' E.get O B c) hr.os hr.tape hr.output hr.size
    (fun c o ho hs => by
      have hlt := (Array.getElem?_eq_some_iff.1 ho).1
      rw [hr.old c hlt hs (fun h => h)]; exact ho)
    (fun c h => h.elim) (fun j c h => (hOf j c h).symm) (fun c h => ⟨h.1.symm, hfr c h.1, fun h => h, fun j hj => h.2 (hOX j c hj)⟩)
    (fun j j' c h1 h2 => L.dis j j' c h1 h2) (fun c j h => h.elim) (fun j c h => hfr c (hOf j c h)) (fun c h => h.elim) (fun j c h => (L.own j c h).1) L.oc (by omega) L.l1 L.l2 (by rw [hlv]; exact L.l3)
    (fun j nl τ v x k1 k2 k3 k4 => L.leaf j nl τ v x k1 (by rw [hlv] at k2; exact k2) k3 k4)
  exact ⟨_, _, _, by unfold setVal; rw [SE.get_put]; exact h1⟩

/-- The results' value. -/
theorem packL_slots {tt : TypeId → TI} {ps : List (Nat × TypeId)} (hl : ∀ p, p ∈ ps → (V p.1).length = (tt p.2).lv.length) : packL tt (ps.map Prod.snd) (ps.flatMap fun p => V p.1) = ps.map fun p => pack1 tt p.2 (V p.1) := by
  induction ps with
  | nil => rfl
  | cons p ps ih =>
    have h1 := hl p List.mem_cons_self
    simp only [List.map_cons, List.flatMap_cons, packL]
    rw [← h1, List.take_left' rfl, List.drop_left' rfl, ih (fun q hq => hl q (List.mem_cons_of_mem _ hq))]

def resVar (tmps : Array Value) : ResultVar → Sem Value
  | .tmp t => pure (tmps.getD t undef)
  | .cell c t => do loadVar t (← asAddr (tmps.getD c undef))

theorem run_resVars (hT : TTOK Γ.P Γ.tt) (h : InvG Γ S E.get ρ a w V O B) {rs : List ResultVar} {ps : List (Nat × TypeId)} (hp : resSlots Γ.tt E rs = some ps) :
    (rs.mapM (resVar a.tmps)).run Γ.P w = .ok (ps.map fun p => pack1 Γ.tt p.2 (V p.1)) w ∧ ∀ p, p ∈ ps → SlotTy Γ.tt E p := by
  induction rs generalizing ps with
  | nil => simp only [resSlots, Option.some.injEq] at hp; subst hp; exact ⟨by simp, fun p hp => by simp at hp⟩
  | cons r rs ih =>
    simp only [resSlots] at hp
    split at hp
    · rename_i p ps' h1 h2
      cases hp
      obtain ⟨i1, i2⟩ := ih h2
      refine ⟨?_, fun q hq => by
        rcases List.mem_cons.1 hq with rfl | hq
        · exact resSlot_ty h1
        · exact i2 q hq⟩
      have hone : (resVar a.tmps r).run Γ.P w = .ok (pack1 Γ.tt p.2 (V p.1)) w := by
        cases r with
        | tmp t =>
          simp only [resSlot] at h1
          split at h1
          · rename_i ty lds he
            cases h1
            have := (h.tmpVal he).1
            simp [resVar, Array.getD_eq_getD_getElem?, this]
          · cases h1
        | cell c ty =>
          simp only [resSlot] at h1
          split at h1
          · rename_i k id off hk
            split at h1
            · rename_i ty' id' lds hb
              simp only [Option.ite_none_right_eq_some, Option.some.injEq] at h1
              obtain ⟨⟨rfl, rfl, rfl, hok⟩, rfl⟩ := h1
              have htm := (h.slot (2 * c)).tm c rfl
              rw [hk] at htm
              have ha := htm ⟨ty, lds, hb⟩
              have hbx := ((h.slot k).bx _ _ _ hb).1
              have hh : (E.get k).k.holds = true := by rw [hb]; rfl
              obtain ⟨l1, _, _⟩ := h.lens hh
              have hlv : (E.get k).k.lv Γ.tt = (Γ.tt ty).lv := by rw [hb]; rfl
              rw [hlv] at l1
              have hld := run_loadVarT hT hok hbx (off := 0) (us := V k) l1 (fun j hj => by rw [Nat.zero_add]; simp)
              simp [resVar, Array.getD_eq_getD_getElem?, ha, asAddr, hld]
            · cases h1
          · cases h1
      rw [List.mapM_cons]
      simp only [Sem.run_bind, hone, Result.andThen_ok, i1, Sem.run_pure, List.map_cons]
    · cases hp

theorem run_resultsT (hT : TTOK Γ.P Γ.tt) (h : InvG Γ S E.get ρ a w V O B) {fn : Func} {ps : List (Nat × TypeId)} (hp : resSlots Γ.tt E fn.results.toList = some ps) :
    (results fn a.tmps).run Γ.P w = .ok (packs Γ.tt (ps.map Prod.snd) (!(Nat.beq ps.length 1)) (ps.flatMap fun p => V p.1)) w ∧ ∀ p, p ∈ ps → SlotTy Γ.tt E p := by
  obtain ⟨h1, h2⟩ := run_resVars hT h hp
  refine ⟨?_, h2⟩
  have hl : ∀ p, p ∈ ps → (V p.1).length = (Γ.tt p.2).lv.length := by
    intro p hp
    obtain ⟨t1, t2⟩ := h2 p hp
    obtain ⟨l1, _, _⟩ := h.lens t1
    rw [l1, t2]
  have hres : results fn a.tmps = (do
      let vs ← fn.results.mapM (resVar a.tmps)
      pure (if h : vs.size = 1 then vs[0] else .tuple vs)) := rfl
  rw [hres, Array.mapM_eq_mapM_toList]
  simp only [Sem.run_bind, Sem.run_map, h1, Result.andThen_ok]
  unfold packs
  rw [packL_slots hl]
  cases ps with
  | nil => simp [packL]
  | cons p ps =>
    cases ps with
    | nil => simp
    | cons q ps => simp

end

end Go.Lgo

namespace Go.Lgo
open Go

theorem Inv'.giveSlots {Γ : Ctx} {E : SE} {ρ : Env} {a : Act} {w : World} (h : Inv' Γ E ρ a w) (ps : List (Nat × TypeId)) : Inv' Γ (giveSlots E ps) ρ a w := by
  induction ps generalizing E with
  | nil => exact h
  | cons p ps ih => exact ih (h.giveAll _ _)

/-- A body, walked from a state to a state, whatever the context. -/
def BodyOK (P : Program) (tt : TypeId → TI) (N : Nat) (c : Code) (E0 : SE) (ρ0 : Env) (E' : SE) (ρ' : Env) : Prop :=
  ∀ (Γ : Ctx) a w, Γ.P = P → Γ.N = N → Γ.tt = tt → Γ.Flat → Inv' Γ E0 ρ0 a w → c.wp P (fun e a' w' => (e = .normal ∨ e = .ret) ∧ Inv' Γ E' ρ' a' w') a w

theorem setMany_replicate (N : Nat) (vs : List Value) (h : vs.length ≤ N) : setMany (Array.replicate N undef) 0 vs = vs.toArray ++ Array.replicate (N - vs.length) undef := by
  apply Array.ext_getElem?
  intro k
  rw [setMany_get _ _ _ (by simp; omega)]
  by_cases h1 : k < vs.length
  · rw [if_pos (by omega), Array.getElem?_append_left (by simpa using h1)]
    simp
  · rw [if_neg (by omega), Array.getElem?_append_right (by simp; omega)]
    simp only [List.size_toArray, Array.getElem?_replicate]
    by_cases h2 : k < N
    · rw [if_pos h2, if_pos (by omega)]
    · rw [if_neg h2, if_neg (by omega)]

section
variable {Γ : Ctx} {E : SE} {ρ : Env} {a : Act} {w : World}

theorem call_wp (hT : TTOK Γ.P Γ.tt) (hf : Γ.Flat) {f : FuncId} {fn : Func} {c : Code} (hfn : Γ.P.funcs[f]? = some fn) (hb : fn.body = some c) (hnm : (fn.name == "runtime.NumGoroutine") = false)
    {o : Oper} {t : Nat} {xs : Array Operand} {ats : Array TypeId} (hd : o.dst = some t) (ho : o.op = .call { callee := .value (.func f), args := xs, argTypes := ats }) (ht : t < Γ.N)
    (h : Inv' Γ E ρ a w) {pars : List (TypeId × Bool × Operand)} {E1 : SE} {ais : List AI} (hp : prArgs Γ.tt E pars = some (E1, ais)) (hx : pars.map (fun p => p.2.2) = xs.toList) (hN : pars.length ≤ fn.ntmps)
    {Eb : SE} {ρb : Env} (hEb : ∀ k, Eb.get k = ⟨0, .dead⟩) {E' : SE} {ρ' : Env} (hbody : BodyOK Γ.P Γ.tt fn.ntmps c (setParams Γ.tt Eb 0 ais) (setRows ρ ρb 0 ais) E' ρ')
    {ps0 ps : List (Nat × TypeId)} {nls : List NL} (hps : resSlots Γ.tt (giveSlots E' ps0) fn.results.toList = some ps) (hn : slotNLs (giveSlots E' ps0) ps = some nls) (hdd : nodup (ps.map Prod.fst) = true)
    {next : Act → World → Prop} {Q : Exit → Act → World → Prop} (hnext : ∀ a' w', Inv' Γ (setVal E1 t (ps.map Prod.snd) (!(Nat.beq ps.length 1)) nls) (upd ρ (2 * t) (ps.flatMap fun p => ρ' p.1)) a' w' → next a' w') : o.wp Γ.P a w next Q := by
  obtain ⟨V, O, B, hI⟩ := h
  obtain ⟨O1, Os, hI1, hsub, hOs, hdis, hlen, hbd, hai⟩ := prArgs_ok hI hp
  obtain ⟨S, hSd⟩ : ∃ S : BSet, S = fun c => none' c ∨ ∃ i, Os i c := ⟨_, rfl⟩
  rw [← hSd] at hI1 hai
  have hSO : ∀ c, S c ↔ ∃ i, Os i c := by
    intro c; rw [hSd]; exact ⟨fun h => h.resolve_left fun h => h, .inr⟩
  have hSf : ∀ c, S c → Γ.fresh c := fun c hc => by obtain ⟨i, hi⟩ := (hSO c).1 hc; exact (hOs i c hi).2.1
  have hOs0 : ∀ i, ais.length ≤ i → ∀ c, ¬ Os i c := by
    intro i hi c hc
    have := hbd i c hc
    omega
  obtain ⟨vs, hvs⟩ : ∃ vs : List Value, vs = pars.map fun p => a.eval p.2.2 := ⟨_, rfl⟩
  have hvl : vs.length = ais.length := by rw [hvs, List.length_map, hlen]
  have hbase := InvG.base (Γ := Γ.sub fn.ntmps w S (XS S E1.get O1 B)) (S := S) (E := Eb.get) (ρ := ρb) (a := { tmps := Array.replicate fn.ntmps undef, defers := [] }) hEb (fun c hc => .inr hc) rfl (by simp [Ctx.sub])
  have hent := setParams_ok (ρc := ρ) (vs := vs) (Os := Os) (ais := ais) hf hbase 0 (by omega) hvl
    (fun c => ⟨fun hc => by
      obtain ⟨i, hi⟩ := (hSO c).1 hc
      exact ⟨i, Nat.lt_of_not_le fun hge => hOs0 i hge c hi, hi⟩, fun ⟨i, _, hi⟩ => (hSO c).2 ⟨i, hi⟩⟩)
    (fun c hc => hc) (fun c hc => .inl hc)
    (fun c hc => by
      rcases hc with hc | ⟨_, _, hc⟩ | ⟨k, id, ⟨_, _, hc⟩, _⟩
      · exact .inl hc
      · exact hc.elim
      · rw [hEb] at hc; cases hc)
    hdis
    (fun j ai v k1 k2 => by
      rw [hvs, List.getElem?_map, Option.map_eq_some_iff] at k2
      obtain ⟨⟨ty, own, x⟩, k3, k4⟩ := k2
      have := hai j ty own x ai k3 k1
      rw [k4] at this
      exact this)
  rw [setMany_replicate fn.ntmps vs (by omega)] at hent
  have hwp := hbody (Γ.sub fn.ntmps w S (XS S E1.get O1 B)) _ w rfl rfl rfl (Ctx.sub_flat _ _ _ _ _) hent
  have hargs : (#[] ++ xs.map a.eval ++ #[] : Array Value) = vs.toArray := by
    apply Array.ext'
    rw [hvs]
    simp [← hx, Function.comp_def]
  have hrun : (execOp a.eval o).run Γ.P w = .ok (.enter f vs.toArray) w := by
    have : execOp a.eval o = callFunc f (#[] ++ xs.map a.eval ++ #[]) := by
      unfold execOp
      rw [ho]
      rfl
    rw [this, hargs]
    have hnm' : ¬ fn.name = "runtime.NumGoroutine" := by simpa using hnm
    simp [callFunc, hfn, hnm', hb]
  unfold Oper.wp
  rw [hrun, Oper.upon_enter]
  refine calls_of_wp hfn hb ?_
  have hsz : vs.toArray.size = vs.length := by simp
  rw [hsz]
  refine wp_mono hwp ?_
  rintro e a' w' ⟨he, hJ⟩
  have hgoal : a'.defers = [] ∧ ∃ v, (results fn a'.tmps).run Γ.P w' = .ok v w' ∧ next (a.put o.dst v) w' := by
    obtain ⟨V2, O2, B2, hI2⟩ := hJ.giveSlots ps0
    obtain ⟨r1, r2⟩ := run_resultsT (Γ := Γ.sub fn.ntmps w S (XS S E1.get O1 B)) hT hI2 (fn := fn) hps
    refine ⟨hI2.defers, _, r1, ?_⟩
    rw [hd]
    exact hnext _ _ (callRet hf hI1 hSf hI2 ht r2 hn hdd _)
  rcases he with rfl | rfl
  · exact hgoal
  · exact hgoal

end

end Go.Lgo

namespace Go.Lgo
open Go

section
variable {X K : Type} (vw : X → Nat → K) (st : Nat → X → Option X) (R W : Nat → Nat → Prop)

/-- Step i at x: it looks at R alone, and writes W alone. -/
def Loc (i : Nat) (x : X) : Prop :=
  ∃ x', st i x = some x' ∧ (∀ k, ¬ W i k → vw x' k = vw x k) ∧ ∀ y, (∀ k, R i k → vw y k = vw x k) → ∃ y', st i y = some y' ∧ (∀ k, W i k → vw y' k = vw x' k) ∧ ∀ k, ¬ W i k → vw y' k = vw y k

inductive Runs : List Nat → X → X → Prop
  | nil {x : X} : Runs [] x x
  | cons {i : Nat} {l : List Nat} {x x' z : X} (h : Loc vw st R W i x) (hs : st i x = some x') (hr : Runs l x' z) : Runs (i :: l) x z

/-- Neither writes what the other looks at or writes. -/
def Apart (i j : Nat) : Prop := (∀ k, W i k → ¬ R j k ∧ ¬ W j k) ∧ ∀ k, W j k → ¬ R i k ∧ ¬ W i k

variable {vw st R W}

theorem Loc.at {i : Nat} {x y x' : X} (h : Loc vw st R W i x) (hs : st i x = some x') (hy : ∀ k, R i k → vw y k = vw x k) :
    ∃ y', st i y = some y' ∧ (∀ k, W i k → vw y' k = vw x' k) ∧ (∀ k, ¬ W i k → vw y' k = vw y k) ∧ Loc vw st R W i y := by
  obtain ⟨x1, h1, h2, h3⟩ := h
  rw [hs] at h1; cases h1
  obtain ⟨y', g1, g2, g3⟩ := h3 y hy
  refine ⟨y', g1, g2, g3, y', g1, g3, fun z hz => ?_⟩
  obtain ⟨z', f1, f2, f3⟩ := h3 z fun k hk => (hz k hk).trans (hy k hk)
  exact ⟨z', f1, fun k hk => (f2 k hk).trans (g2 k hk).symm, f3⟩

/-- Elsewhere the state may be another. -/
theorem Runs.frame {l : List Nat} {x z y : X} (h : Runs vw st R W l x z) (D : Nat → Prop) (hD : ∀ j, j ∈ l → ∀ k, D k → ¬ R j k ∧ ¬ W j k) (hy : ∀ k, ¬ D k → vw y k = vw x k) :
    ∃ z', Runs vw st R W l y z' ∧ (∀ k, D k → vw z' k = vw y k) ∧ ∀ k, ¬ D k → vw z' k = vw z k := by
  induction h generalizing y with
  | nil => exact ⟨y, .nil, fun _ _ => rfl, hy⟩
  | @cons i l x x' z hl hs hr ih =>
    obtain ⟨y', g1, g2, g3, g4⟩ := hl.at hs (y := y) fun k hk => hy k fun hd => (hD i List.mem_cons_self k hd).1 hk
    obtain ⟨_, e1, e2, _⟩ := hl
    rw [hs] at e1; cases e1
    obtain ⟨z', f1, f2, f3⟩ := ih (y := y') (fun j hj => hD j (List.mem_cons_of_mem _ hj)) (fun k hk => by
      by_cases hw : W i k
      · exact g2 k hw
      · rw [g3 k hw, e2 k hw]; exact hy k hk)
    exact ⟨z', .cons g4 g1 f1, fun k hk => (f2 k hk).trans (g3 k (hD i List.mem_cons_self k hk).2), f3⟩

/-- What a run does not write stays. -/
theorem Runs.keep {l : List Nat} {x z : X} (h : Runs vw st R W l x z) {k : Nat} (hk : ∀ j, j ∈ l → ¬ W j k) : vw z k = vw x k := by
  induction h with
  | nil => rfl
  | @cons i l x x' z hl hs hr ih =>
    obtain ⟨_, e1, e2, _⟩ := hl
    rw [hs] at e1; cases e1
    rw [ih fun j hj => hk j (List.mem_cons_of_mem _ hj)]
    exact e2 k (hk i List.mem_cons_self)

theorem Runs.append {l1 l2 : List Nat} {x z : X} (h : Runs vw st R W (l1 ++ l2) x z) : ∃ y, Runs vw st R W l1 x y ∧ Runs vw st R W l2 y z := by
  induction l1 generalizing x with
  | nil => exact ⟨x, .nil, h⟩
  | cons i l1 ih =>
    cases h with
    | cons hl hs hr =>
      obtain ⟨y, h1, h2⟩ := ih hr
      exact ⟨y, .cons hl hs h1, h2⟩
theorem Runs.join {l1 l2 : List Nat} {x y z : X} (h : Runs vw st R W l1 x y) (h2 : Runs vw st R W l2 y z) : Runs vw st R W (l1 ++ l2) x z := by
  induction h with
  | nil => exact h2
  | cons hl hs hr ih => exact .cons hl hs (ih h2)

/-- **A step is taken first.** -/
theorem Runs.first {l1 l2 : List Nat} {i : Nat} {x z : X} (h : Runs vw st R W (l1 ++ i :: l2) x z) (ha : ∀ j, j ∈ l1 → Apart R W j i) :
    ∃ z', Runs vw st R W (i :: (l1 ++ l2)) x z' ∧ ∀ k, vw z' k = vw z k := by
  obtain ⟨x1, h1, h2⟩ := h.append
  cases h2 with
  | @cons _ _ _ x2 _ hl hs hr =>
    have hxx : ∀ k, R i k ∨ W i k → vw x k = vw x1 k := by
      intro k hk
      refine (h1.keep fun j hj hw => ?_).symm
      have := (ha j hj).1 k hw
      exact hk.elim this.1 this.2
    obtain ⟨y1, g1, g2, g3, g4⟩ := hl.at hs (y := x) fun k hk => hxx k (.inl hk)
    obtain ⟨x2', f1, f2, f3⟩ := h1.frame (W i) (y := y1) (fun j hj k hk => (ha j hj).2 k hk) fun k hk => g3 k hk
    obtain ⟨_, e1, e2, _⟩ := hl
    rw [hs] at e1; cases e1
    have heq : ∀ k, vw x2' k = vw x2 k := by
      intro k
      by_cases hk : W i k
      · rw [f2 k hk, g2 k hk]
      · rw [f3 k hk, e2 k hk]
    obtain ⟨z', q1, q2, q3⟩ := hr.frame (fun _ => False) (y := x2') (fun _ _ _ h => h.elim) fun k _ => heq k
    exact ⟨z', .cons g4 g1 (f1.join q1), fun k => q3 k fun h => h⟩

end

end Go.Lgo

namespace Go.Lgo
open Go

section
variable {P : Program} {ops : Array Oper} {X K : Type} {vw : X → Nat → K} {st : Nat → X → Option X} {R W : Nat → Nat → Prop} {J : X → Act → World → Prop} {anc : Nat → List Nat}

/-- What is asked of a region's table of forerunners. -/
structure AncOK (ops : Array Oper) (anc : Nat → List Nat) : Prop where
  lt : ∀ (i : Nat) o e, ops[i]? = some o → e ∈ o.after → Region.binds .any e = true → e.on < i
  anc : ∀ (i j : Nat), j ∈ anc i → ∃ o e, ops[i]? = some o ∧ e ∈ o.after ∧ Region.binds .any e = true ∧ (j = e.on ∨ j ∈ anc e.on)

theorem anc_listed (ha : AncOK ops anc) {listed : Array Bool} (hcl : ∀ (k : Nat) o e, listed.getD k false = true → ops[k]? = some o → e ∈ o.after → Region.binds .any e = true → listed.getD e.on false = true) :
    ∀ i : Nat, (∀ o e, ops[i]? = some o → e ∈ o.after → Region.binds .any e = true → listed.getD e.on false = true) → ∀ j, j ∈ anc i → listed.getD j false = true := by
  intro i
  induction i using Nat.strongRecOn with
  | _ i ih =>
    intro hi j hj
    obtain ⟨o, e, h1, h2, h3, h4⟩ := ha.anc i j hj
    have he := hi o e h1 h2 h3
    rcases h4 with rfl | h4
    · exact he
    · exact ih e.on (ha.lt i o e h1 h2 h3) (fun o' e' g1 g2 g3 => hcl e.on o' e' he g1 g2 g3) j h4

theorem any_of_runs (ha : AncOK ops anc) (hap : ∀ i j : Nat, j < i → i < ops.size → j ∈ anc i ∨ Apart R W j i)
    (hst : ∀ (i : Nat) x x' a w Q (Kt : Act → World → Prop), st i x = some x' → J x a w → (∀ a w, J x' a w → Kt a w) → wpOp P ops Q i Kt a w)
    (fuel : Nat) : ∀ (L : List Nat) (listed : Array Bool) (x z : X) (a : Act) (w : World) (Q : Exit → Act → World → Prop), listed.size = ops.size → L.length = fuel → L.Pairwise (· < ·) →
      (∀ i, i ∈ L ↔ i < ops.size ∧ listed.getD i false = false) → (∀ (k : Nat) o e, listed.getD k false = true → ops[k]? = some o → e ∈ o.after → Region.binds .any e = true → listed.getD e.on false = true) →
      Runs vw st R W L x z → J x a w → (∀ z' a w, (∀ k, vw z' k = vw z k) → J z' a w → Q .normal a w) → wpAny P .any ops Q fuel listed a w := by
  have hdef : ∀ (listed : Array Bool) (i : Nat), i < listed.size → listed.getD i true = listed.getD i false := by
    intro listed i hi
    simp [Array.getD_eq_getD_getElem?, Array.getElem?_eq_getElem hi]
  induction fuel with
  | zero =>
    intro L listed x z a w Q hsz hlen hso hm hcl hr hj hQ
    have hL : L = [] := List.eq_nil_of_length_eq_zero hlen
    subst hL
    cases hr
    refine ⟨?_, hQ _ a w (fun _ => rfl) hj⟩
    rw [List.eq_nil_iff_forall_not_mem]
    intro i hi
    obtain ⟨h1, o, h2, _⟩ := mem_ready.1 hi
    have hlt : i < ops.size := (Array.getElem?_eq_some_iff.1 h2).1
    rw [hdef listed i (by omega)] at h1
    have := (hm i).2 ⟨hlt, h1⟩
    simp at this
  | succ fuel ih =>
    intro L listed x z a w Q hsz hlen hso hm hcl hr hj hQ
    refine ⟨fun hnil => ?_, ?_⟩
    · exfalso
      cases L with
      | nil => simp at hlen
      | cons i0 L' =>
        have h0 := (hm i0).1 List.mem_cons_self
        have : i0 ∈ Region.ready .any ops listed := by
          refine mem_ready.2 ⟨by rw [hdef listed i0 (by omega)]; exact h0.2, ops[i0]'h0.1, Array.getElem?_eq_getElem h0.1, fun e he hb => ?_⟩
          have hlt := ha.lt i0 _ e (Array.getElem?_eq_getElem h0.1) he hb
          cases hle : listed.getD e.on false with
          | true => rfl
          | false =>
            have := (hm e.on).2 ⟨by omega, hle⟩
            rcases List.mem_cons.1 this with h | h
            · omega
            · have := List.rel_of_pairwise_cons hso h
              omega
        rw [hnil] at this
        simp at this
    · intro i hi
      obtain ⟨h1, o, h2, h3⟩ := mem_ready.1 hi
      have hlt : i < ops.size := (Array.getElem?_eq_some_iff.1 h2).1
      rw [hdef listed i (by omega)] at h1
      have hiL := (hm i).2 ⟨hlt, h1⟩
      obtain ⟨L1, L2, rfl⟩ := List.append_of_mem hiL
      have hp := List.pairwise_append.1 hso
      have hready : ∀ o' e, ops[i]? = some o' → e ∈ o'.after → Region.binds .any e = true → listed.getD e.on false = true := by
        intro o' e g1 g2 g3
        rw [h2] at g1; cases g1
        exact h3 e g2 g3
      have hap1 : ∀ j, j ∈ L1 → Apart R W j i := by
        intro j hj1
        have hji : j < i := hp.2.2 j hj1 i List.mem_cons_self
        rcases hap i j hji hlt with h | h
        · have := anc_listed ha hcl i hready j h
          have hj2 := ((hm j).1 (List.mem_append_left _ hj1)).2
          rw [this] at hj2; cases hj2
        · exact h
      obtain ⟨z', hr', hz'⟩ := hr.first hap1
      cases hr' with
      | @cons _ _ _ x1 _ hl hs hr1 =>
      refine hst i x x1 a w Q _ hs hj fun a1 w1 hj1 => ?_
      have hne : ∀ k, (listed.setIfInBounds i true).getD k false = if k = i then true else listed.getD k false := by
        intro k
        by_cases hk : k = i
        · subst hk
          rw [if_pos rfl]
          simp [Array.getD_eq_getD_getElem?, Array.getElem?_setIfInBounds_self_of_lt (show k < listed.size by omega)]
        · rw [if_neg hk]
          simp [Array.getD_eq_getD_getElem?, Array.getElem?_setIfInBounds_ne (Ne.symm hk)]
      have hso2 := (List.pairwise_cons.1 hp.2.1)
      refine ih (L1 ++ L2) (listed.setIfInBounds i true) x1 z' a1 w1 Q (by simp [hsz]) (by simp at hlen ⊢; omega) (List.pairwise_append.2 ⟨hp.1, hso2.2, fun p hp1 q hq => hp.2.2 p hp1 q (List.mem_cons_of_mem _ hq)⟩) ?_ ?_ hr1 hj1
        (fun z2 a2 w2 hz2 hj2 => hQ z2 a2 w2 (fun k => (hz2 k).trans (hz' k)) hj2)
      · intro k
        rw [hne k]
        constructor
        · intro hk
          have hki : k ≠ i := by
            rintro rfl
            rcases List.mem_append.1 hk with hk | hk
            · exact absurd (hp.2.2 k hk k List.mem_cons_self) (Nat.lt_irrefl _)
            · exact absurd (hso2.1 k hk) (Nat.lt_irrefl _)
          rw [if_neg hki]
          refine (hm k).1 ?_
          rcases List.mem_append.1 hk with hk | hk
          · exact List.mem_append_left _ hk
          · exact List.mem_append_right _ (List.mem_cons_of_mem _ hk)
        · rintro ⟨hk1, hk2⟩
          by_cases hki : k = i
          · rw [if_pos hki] at hk2; cases hk2
          · rw [if_neg hki] at hk2
            rcases List.mem_append.1 ((hm k).2 ⟨hk1, hk2⟩) with hk | hk
            · exact List.mem_append_left _ hk
            · rcases List.mem_cons.1 hk with hk | hk
              · exact absurd hk hki
              · exact List.mem_append_right _ hk
      · intro k o' e g0 g1 g2 g3
        rw [hne]
        split
        · rfl
        · rw [hne] at g0
          split at g0
          · rename_i hk; subst hk; exact hready o' e g1 g2 g3
          · exact hcl k o' e g0 g1 g2 g3

/-- **A region in any order.** -/
theorem region_any (hm : P.follows .mixedOrders = true) (ha : AncOK ops anc) (hap : ∀ i j : Nat, j < i → i < ops.size → j ∈ anc i ∨ Apart R W j i)
    (hst : ∀ (i : Nat) x x' a w Q (Kt : Act → World → Prop), st i x = some x' → J x a w → (∀ a w, J x' a w → Kt a w) → wpOp P ops Q i Kt a w)
    (hdrawn : ∀ x a w, J x a w → J x a { w with drawn := w.drawn + 1 }) {id : Nat} {x z : X} {a : Act} {w : World} (hr : Runs vw st R W (List.range ops.size) x z) (hj : J x a w)
    (hJ : ∀ z', (∀ k, vw z' k = vw z k) → ∀ a w, J z' a w → J z a w) : (Code.region id ops true).wp P (fun e a w => e = .normal ∧ J z a w) a w := by
  refine wp_region_any hm ?_
  have hg : ∀ k, (Array.replicate ops.size false).getD k false = false := by
    intro k
    simp only [Array.getD_eq_getD_getElem?, Array.getElem?_replicate]
    split <;> rfl
  refine any_of_runs ha hap hst ops.size (List.range ops.size) _ x z a _ _ (by simp) (by simp) List.pairwise_lt_range ?_ ?_ hr (hdrawn x a w hj) fun z' a w hz h => ⟨rfl, hJ z' hz a w h⟩
  · intro i
    rw [hg]; simp
  · intro k o e h
    rw [hg] at h; cases h

end

end Go.Lgo

namespace Go.Lgo
open Go

inductive SL where
  | i (c : Int)
  | y (k1 k2 c : Int)
  | b (v : Bool)
  | s (v : List Nat)
  | l (xs : List (List SL))
abbrev SRow := List SL

instance : Inhabited SL := ⟨.i 0⟩

def bytesOf (v : List Nat) : ByteArray := ⟨(v.map UInt8.ofNat).toArray⟩

mutual
/-- What it stands for. -/
def SL.g (n m : Int) : SL → L
  | .i c => .i c
  | .y k1 k2 c => .i (c + k1 * n + k2 * m)
  | .b v => .b v
  | .s v => .s (bytesOf v)
  | .l xs => .l (SL.gs n m xs)
def SL.gs (n m : Int) : List (List SL) → List (List L)
  | [] => []
  | r :: rs => SL.gr n m r :: SL.gs n m rs
def SL.gr (n m : Int) : List SL → List L
  | [] => []
  | x :: xs => SL.g n m x :: SL.gr n m xs
end

theorem gr_map (n m : Int) (r : List SL) : SL.gr n m r = r.map (SL.g n m) := by
  induction r with
  | nil => rfl
  | cons x r ih => simp [SL.gr, ih]
theorem gs_map (n m : Int) (rs : List (List SL)) : SL.gs n m rs = rs.map (SL.gr n m) := by
  induction rs with
  | nil => rfl
  | cons x r ih => simp [SL.gs, ih]

/-- The numbers' ranges. -/
structure Rng where
  n0 : Int
  n1 : Int
  m0 : Int
  m1 : Int
def Rng.has (D : Rng) (n m : Int) : Prop := D.n0 ≤ n ∧ n ≤ D.n1 ∧ D.m0 ≤ m ∧ m ≤ D.m1

/-- As k1, k2, c. -/
def SL.aff : SL → Option (Int × Int × Int)
  | .i c => some (0, 0, c)
  | .y k1 k2 c => some (k1, k2, c)
  | _ => none
def SL.ofAff (k1 k2 c : Int) : SL := if k1 = 0 ∧ k2 = 0 then .i c else .y k1 k2 c
theorem SL.aff_g {n m : Int} {x : SL} {k1 k2 c : Int} (h : x.aff = some (k1, k2, c)) : x.g n m = .i (c + k1 * n + k2 * m) := by
  cases x with
  | i c' => simp only [SL.aff, Option.some.injEq, Prod.mk.injEq] at h; obtain ⟨rfl, rfl, rfl⟩ := h; simp [SL.g]
  | y a b c' => simp only [SL.aff, Option.some.injEq, Prod.mk.injEq] at h; obtain ⟨rfl, rfl, rfl⟩ := h; rfl
  | b v => cases h
  | s v => cases h
  | l v => cases h
theorem SL.ofAff_g {n m : Int} (k1 k2 c : Int) : (SL.ofAff k1 k2 c).g n m = .i (c + k1 * n + k2 * m) := by
  unfold SL.ofAff
  split
  · rename_i h; obtain ⟨rfl, rfl⟩ := h; simp [SL.g]
  · rfl

/-- The least and the greatest that c + k1*n + k2*m may be. -/
def loOf (k a b : Int) : Int := if 0 ≤ k then k * a else k * b
def hiOf (k a b : Int) : Int := if 0 ≤ k then k * b else k * a
theorem loOf_le {k a b n : Int} (h1 : a ≤ n) (h2 : n ≤ b) : loOf k a b ≤ k * n := by
  unfold loOf
  split
  · rename_i h; exact Int.mul_le_mul_of_nonneg_left h1 h
  · rename_i h; exact Int.mul_le_mul_of_nonpos_left (by omega) h2
theorem le_hiOf {k a b n : Int} (h1 : a ≤ n) (h2 : n ≤ b) : k * n ≤ hiOf k a b := by
  unfold hiOf
  split
  · rename_i h; exact Int.mul_le_mul_of_nonneg_left h2 h
  · rename_i h; exact Int.mul_le_mul_of_nonpos_left (by omega) h1
def Rng.lo (D : Rng) (k1 k2 c : Int) : Int := c + loOf k1 D.n0 D.n1 + loOf k2 D.m0 D.m1
def Rng.hi (D : Rng) (k1 k2 c : Int) : Int := c + hiOf k1 D.n0 D.n1 + hiOf k2 D.m0 D.m1
theorem Rng.lo_le {D : Rng} {n m : Int} (h : D.has n m) (k1 k2 c : Int) : D.lo k1 k2 c ≤ c + k1 * n + k2 * m := by
  have h1 := loOf_le (k := k1) h.1 h.2.1
  have h2 := loOf_le (k := k2) h.2.2.1 h.2.2.2
  unfold Rng.lo; omega
theorem Rng.le_hi {D : Rng} {n m : Int} (h : D.has n m) (k1 k2 c : Int) : c + k1 * n + k2 * m ≤ D.hi k1 k2 c := by
  have h1 := le_hiOf (k := k1) h.1 h.2.1
  have h2 := le_hiOf (k := k2) h.2.2.1 h.2.2.2
  unfold Rng.hi; omega

/-- Within the 64 bits. -/
def Rng.fits (D : Rng) (k1 k2 c : Int) : Bool := decide (-9223372036854775808 ≤ D.lo k1 k2 c) && decide (D.hi k1 k2 c ≤ 9223372036854775807)
theorem Rng.fits_wrap {D : Rng} {n m : Int} (h : D.has n m) {k1 k2 c : Int} (hf : D.fits k1 k2 c = true) : IntKind.i64.wrap (c + k1 * n + k2 * m) = c + k1 * n + k2 * m := by
  simp only [Rng.fits, Bool.and_eq_true, decide_eq_true_eq] at hf
  have h1 := D.lo_le h k1 k2 c
  have h2 := D.le_hi h k1 k2 c
  rw [IntKind.wrap_i64]
  omega

def ofL : L → Option SL
  | .i c => some (.i c)
  | .b v => some (.b v)
  | _ => none
theorem ofL_g {n m : Int} {x : L} {y : SL} (h : ofL x = some y) : y.g n m = x := by
  cases x <;> simp only [ofL, Option.some.injEq, reduceCtorEq] at h
  · subst h; rfl
  · subst h; rfl

/-- A comparison of symbolic numbers: told only if it is the same for all. -/
def cmpS (D : Rng) (o : BinOp) (k1 k2 c : Int) : Option Bool :=
  let lo := D.lo k1 k2 c
  let hi := D.hi k1 k2 c
  match o with
  | .eql => if k1 = 0 ∧ k2 = 0 then some (decide (c = 0)) else if 0 < lo ∨ hi < 0 then some false else none
  | .neq => if k1 = 0 ∧ k2 = 0 then some (decide (c ≠ 0)) else if 0 < lo ∨ hi < 0 then some true else none
  | .lss => if hi < 0 then some true else if 0 ≤ lo then some false else none
  | .leq => if hi ≤ 0 then some true else if 0 < lo then some false else none
  | .gtr => if 0 < lo then some true else if hi ≤ 0 then some false else none
  | .geq => if 0 ≤ lo then some true else if hi < 0 then some false else none
  | _ => none

def binSym (D : Rng) (o : BinOp) (k : IntKind) (x y : SL) : Option SL :=
  match x, y with
  | .i a, .i b => match Lgo.binI o k a b with
    | some r => ofL r
    | none => none
  | _, _ =>
    match x.aff, y.aff with
    | some (a1, a2, a), some (b1, b2, b) =>
      match o with
      | .add => if k = .i64 ∧ D.fits (a1 + b1) (a2 + b2) (a + b) = true then some (SL.ofAff (a1 + b1) (a2 + b2) (a + b)) else none
      | .sub => if k = .i64 ∧ D.fits (a1 - b1) (a2 - b2) (a - b) = true then some (SL.ofAff (a1 - b1) (a2 - b2) (a - b)) else none
      | .mul =>
        if k = .i64 ∧ b1 = 0 ∧ b2 = 0 ∧ D.fits (a1 * b) (a2 * b) (a * b) = true then some (SL.ofAff (a1 * b) (a2 * b) (a * b))
        else if k = .i64 ∧ a1 = 0 ∧ a2 = 0 ∧ D.fits (a * b1) (a * b2) (a * b) = true then some (SL.ofAff (a * b1) (a * b2) (a * b)) else none
      | o => (cmpS D o (a1 - b1) (a2 - b2) (a - b)).map SL.b
    | _, _ => none

theorem binSym_ok {D : Rng} {n m : Int} (h : D.has n m) {o : BinOp} {k : IntKind} {x y r : SL} (hr : binSym D o k x y = some r) : Lgo.binI o k (x.g n m).int (y.g n m).int = some (r.g n m) := by
  unfold binSym at hr
  split at hr
  · rename_i a b
    split at hr
    · rename_i r' h'
      show Lgo.binI o k a b = _
      rw [h', ofL_g hr]
    · cases hr
  · split at hr
    · rename_i a1 a2 a b1 b2 b ha hb
      rw [SL.aff_g ha, SL.aff_g hb]
      show Lgo.binI o k (a + a1 * n + a2 * m) (b + b1 * n + b2 * m) = _
      split at hr
      · simp only [Option.ite_none_right_eq_some, Option.some.injEq] at hr
        obtain ⟨⟨rfl, hf⟩, rfl⟩ := hr
        rw [SL.ofAff_g]
        have e : a + a1 * n + a2 * m + (b + b1 * n + b2 * m) = (a + b) + (a1 + b1) * n + (a2 + b2) * m := by rw [Int.add_mul, Int.add_mul]; omega
        simp only [Lgo.binI, e, Rng.fits_wrap h hf]
      · simp only [Option.ite_none_right_eq_some, Option.some.injEq] at hr
        obtain ⟨⟨rfl, hf⟩, rfl⟩ := hr
        rw [SL.ofAff_g]
        have e : a + a1 * n + a2 * m - (b + b1 * n + b2 * m) = (a - b) + (a1 - b1) * n + (a2 - b2) * m := by rw [Int.sub_mul, Int.sub_mul]; omega
        simp only [Lgo.binI, e, Rng.fits_wrap h hf]
      · split at hr
        · rename_i hc
          obtain ⟨rfl, rfl, rfl, hf⟩ := hc
          cases hr
          rw [SL.ofAff_g]
          have e : (a + a1 * n + a2 * m) * (b + 0 * n + 0 * m) = (a * b) + (a1 * b) * n + (a2 * b) * m := by
            rw [Int.zero_mul, Int.zero_mul, Int.add_zero, Int.add_zero, Int.add_mul, Int.add_mul, Int.mul_right_comm a1 n b, Int.mul_right_comm a2 m b]
          simp only [Lgo.binI, e, Rng.fits_wrap h hf]
        · simp only [Option.ite_none_right_eq_some, Option.some.injEq] at hr
          obtain ⟨⟨rfl, rfl, rfl, hf⟩, rfl⟩ := hr
          rw [SL.ofAff_g]
          have e : (a + 0 * n + 0 * m) * (b + b1 * n + b2 * m) = (a * b) + (a * b1) * n + (a * b2) * m := by
            rw [Int.zero_mul, Int.zero_mul, Int.add_zero, Int.add_zero, Int.mul_add, Int.mul_add, Int.mul_assoc, Int.mul_assoc]
          simp only [Lgo.binI, e, Rng.fits_wrap h hf]
      · simp only [Option.map_eq_some_iff] at hr
        obtain ⟨v, hv, rfl⟩ := hr
        have h1 := D.lo_le h (a1 - b1) (a2 - b2) (a - b)
        have h2 := D.le_hi h (a1 - b1) (a2 - b2) (a - b)
        have e : (a - b) + (a1 - b1) * n + (a2 - b2) * m = (a + a1 * n + a2 * m) - (b + b1 * n + b2 * m) := by rw [Int.sub_mul, Int.sub_mul]; omega
        unfold cmpS at hv
        simp only at hv
        generalize hX : a + a1 * n + a2 * m = X at *
        generalize hY : b + b1 * n + b2 * m = Y at *
        split at hv
        · split at hv
          · rename_i hz
            rw [hz.1, hz.2, Int.zero_mul, Int.zero_mul] at e
            cases hv
            simp only [Lgo.binI, SL.g, Option.some.injEq, L.b.injEq]
            rw [Bool.eq_iff_iff]; simp; omega
          · split at hv
            · cases hv
              simp only [Lgo.binI, SL.g, Option.some.injEq, L.b.injEq]
              simp; omega
            · cases hv
        · split at hv
          · rename_i hz
            rw [hz.1, hz.2, Int.zero_mul, Int.zero_mul] at e
            cases hv
            simp only [Lgo.binI, SL.g, Option.some.injEq, L.b.injEq]
            rw [Bool.eq_iff_iff]; simp; omega
          · split at hv
            · cases hv
              simp only [Lgo.binI, SL.g, Option.some.injEq, L.b.injEq]
              simp; omega
            · cases hv
        all_goals first
          | (split at hv
             · cases hv
               simp only [Lgo.binI, SL.g, Option.some.injEq, L.b.injEq]
               simp; omega
             · split at hv
               · cases hv
                 simp only [Lgo.binI, SL.g, Option.some.injEq, L.b.injEq]
                 simp; omega
               · cases hv)
          | cases hv
    · cases hr

end Go.Lgo
