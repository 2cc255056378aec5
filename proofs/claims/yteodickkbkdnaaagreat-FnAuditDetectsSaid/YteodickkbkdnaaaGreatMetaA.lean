/-
  Pure data that machine values stand for, who owns which memory, and one law for each kind of operation, over any program and any world.
-/
import Derived.Calls
import Derived.Laws.AppendOwn
import Derived.Laws.Sem
import Derived.Laws.Entries
import Derived.Laws.StructEq
import Derived.Laws.Cells
import Derived.Laws.CopyRow

namespace Go.Lgo
open Go

/-- Pure data: a leaf. A struct is the list of its leaves (a row); a slice is the list of its rows. -/
inductive L where
  | i (n : Int)
  | b (v : Bool)
  | s (v : ByteArray)
  | l (xs : List (List L))

abbrev Row := List L
abbrev BSet := Nat → Prop

inductive Leaf where
  | int (k : IntKind)
  | bool
  | str
  | sl (e : TypeId)
  deriving DecidableEq, Repr, Inhabited

abbrev TL := TypeId → List Leaf

def rows (X : Nat → Nat → L) (m n : Nat) : List Row := (List.range m).map fun i => (List.range n).map (X i)

theorem rows_length (X : Nat → Nat → L) (m n : Nat) : (rows X m n).length = m := by simp [rows]
theorem rows_get {X : Nat → Nat → L} {m n i : Nat} (h : i < m) : (rows X m n)[i]? = some ((List.range n).map (X i)) := by
  simp [rows, List.getElem?_map, List.getElem?_range h]

/-- What is published: it reads so, and every block that is visited lies in F. -/
inductive Rd (tl : TL) (w : World) (F : BSet) : Leaf → Value → L → Prop
  | int {k : IntKind} {n : Int} : Rd tl w F (.int k) (.int k n) (.i n)
  | bool {v : Bool} : Rd tl w F .bool (.bool v) (.b v)
  | str {v : ByteArray} : Rd tl w F .str (.string v) (.s v)
  | nil {e : TypeId} : Rd tl w F (.sl e) (.slice none 0 0) (.l [])
  | sl {e : TypeId} {b off len cap : Nat} {cs : Array Value} {e' : TypeId} {fr : Nat × Nat} (V : Nat → Nat → Value) (X : Nat → Nat → L)
      (hF : F b) (hb : w.heap[b]? = some (.cells cs e' fr)) (hlc : len ≤ cap) (hcap : cap ≤ maxLen)
      (hc : ∀ i j, i < len → j < (tl e).length → cs[off + i * (tl e).length + j]? = some (V i j))
      (hr : ∀ i j τ, i < len → (tl e)[j]? = some τ → Rd tl w F τ (V i j) (X i j)) :
      Rd tl w F (.sl e) (.slice (some ⟨b, off, none⟩) len cap) (.l (rows X len (tl e).length))

theorem Rd.mono {tl : TL} {w w' : World} {F F' : BSet} {τ : Leaf} {v : Value} {x : L} (h : Rd tl w F τ v x)
    (hw : ∀ b o, F b → w.heap[b]? = some o → w'.heap[b]? = some o ∧ F' b) : Rd tl w' F' τ v x := by
  induction h with
  | int => exact .int
  | bool => exact .bool
  | str => exact .str
  | nil => exact .nil
  | sl V X hF hb hlc hcap hc hr ih => exact .sl V X (hw _ _ hF hb).2 (hw _ _ hF hb).1 hlc hcap hc fun i j τ hi hj => ih i j τ hi hj

/-- Descriptions of ownership: published (with the parameters' leaves that it may lead to), or owned, with its rows' leaves. -/
inductive Dsc where
  | pub (m : Nat)
  | own (ds : List Dsc)
  deriving Inhabited

/-- What is owned: the slice's whole block, its own alone, and so on below. FP: where published parts may lie. O: the blocks that are owned. -/
inductive Own (tl : TL) (w : World) (FP : Nat → BSet) : Leaf → Dsc → Value → L → BSet → Prop
  | pub {τ : Leaf} {m : Nat} {v : Value} {x : L} {O : BSet} (h : Rd tl w (FP m) τ v x) (hO : ∀ c, ¬ O c) : Own tl w FP τ (.pub m) v x O
  | nil {e : TypeId} {ds : List Dsc} {O : BSet} (hO : ∀ c, ¬ O c) : Own tl w FP (.sl e) (.own ds) (.slice none 0 0) (.l []) O
  | sl {e : TypeId} {ds : List Dsc} {b len cap : Nat} {cs : Array Value} {O : BSet} (V : Nat → Nat → Value) (X : Nat → Nat → L) (G : Nat → Nat → BSet)
      (hb : w.heap[b]? = some (.cells cs e (0, 0))) (hs : cs.size = cap * (tl e).length) (hlc : len ≤ cap) (hcap : cap ≤ maxLen)
      (hc : ∀ i j, i < len → j < (tl e).length → cs[i * (tl e).length + j]? = some (V i j))
      (hr : ∀ i j τ, i < len → (tl e)[j]? = some τ → Own tl w FP τ (ds.getD j (.pub 0)) (V i j) (X i j) (G i j))
      (hd : ∀ i j i' j' c, i < len → i' < len → j < (tl e).length → j' < (tl e).length → G i j c → G i' j' c → i = i' ∧ j = j')
      (hbG : ∀ i j, i < len → j < (tl e).length → ¬ G i j b)
      (hO : ∀ c, O c ↔ c = b ∨ ∃ i j, i < len ∧ j < (tl e).length ∧ G i j c) :
      Own tl w FP (.sl e) (.own ds) (.slice (some ⟨b, 0, none⟩) len cap) (.l (rows X len (tl e).length)) O

theorem Own.live {tl : TL} {w : World} {FP : Nat → BSet} {τ : Leaf} {d : Dsc} {v : Value} {x : L} {O : BSet} (h : Own tl w FP τ d v x O) :
    ∀ c, O c → ∃ cs e, w.heap[c]? = some (.cells cs e (0, 0)) := by
  induction h with
  | pub h hO => exact fun c hc => absurd hc (hO c)
  | nil hO => exact fun c hc => absurd hc (hO c)
  | sl V X G hb hs hlc hcap hc hr hd hbG hO ih =>
    intro c hcO
    rcases (hO c).1 hcO with rfl | ⟨i, j, hi, hj, hG⟩
    · exact ⟨_, _, hb⟩
    · exact ih i j _ hi (List.getElem?_eq_getElem hj) c hG

theorem Own.lt {tl : TL} {w : World} {FP : Nat → BSet} {τ : Leaf} {d : Dsc} {v : Value} {x : L} {O : BSet} (h : Own tl w FP τ d v x O) {c : Nat} (hc : O c) : c < w.heap.size := by
  obtain ⟨cs, e, hh⟩ := h.live c hc
  exact (Array.getElem?_eq_some_iff.1 hh).1

/-- Nothing that it stands on has turned. -/
theorem Own.mono {tl : TL} {w w' : World} {FP FP' : Nat → BSet} {τ : Leaf} {d : Dsc} {v : Value} {x : L} {O : BSet} (h : Own tl w FP τ d v x O)
    (hp : ∀ m b o, FP m b → w.heap[b]? = some o → w'.heap[b]? = some o ∧ FP' m b) (ho : ∀ b o, O b → w.heap[b]? = some o → w'.heap[b]? = some o) : Own tl w' FP' τ d v x O := by
  induction h with
  | pub h hO => exact .pub (h.mono fun b o => hp _ b o) hO
  | nil hO => exact .nil hO
  | sl V X G hb hs hlc hcap hc hr hd hbG hO ih =>
    refine .sl V X G (ho _ _ ((hO _).2 (.inl rfl)) hb) hs hlc hcap hc (fun i j τ hi hj => ih i j τ hi hj fun b o hG => ho b o ((hO b).2 (.inr ⟨i, j, hi, ?_, hG⟩))) hd hbG hO
    exact (List.getElem?_eq_some_iff.1 hj).1

/-- The masks that a description bears. -/
def maskSub (m m' : Nat) : Bool := (m &&& m') == m
mutual
def Dsc.under (m : Nat) : Dsc → Bool
  | .pub k => maskSub k m
  | .own ds => Dsc.underAll m ds
def Dsc.underAll (m : Nat) : List Dsc → Bool
  | [] => true
  | d :: ds => Dsc.under m d && Dsc.underAll m ds
end

theorem Dsc.under_getD {m : Nat} {ds : List Dsc} (h : Dsc.underAll m ds = true) (j : Nat) : Dsc.under m (ds.getD j (.pub 0)) = true := by
  induction ds generalizing j with
  | nil => simp [Dsc.under, maskSub]
  | cons d ds ih =>
    simp only [Dsc.underAll, Bool.and_eq_true] at h
    cases j with
    | zero => simpa using h.1
    | succ j => simpa using ih h.2 j

/-- A growing family of places: a greater mask allows more. -/
def Grows (FP : Nat → BSet) : Prop := ∀ m m' b, maskSub m m' = true → FP m b → FP m' b

/-- Published as a whole. -/
theorem Own.read {tl : TL} {w : World} {FP : Nat → BSet} {τ : Leaf} {d : Dsc} {v : Value} {x : L} {O F : BSet} {m : Nat} (h : Own tl w FP τ d v x O) (hg : Grows FP) (hu : d.under m = true)
    (hp : ∀ b, FP m b → F b) (ho : ∀ b, O b → F b) : Rd tl w F τ v x := by
  induction h with
  | pub h hO => exact h.mono fun b o hb hh => ⟨hh, hp b (hg _ _ b hu hb)⟩
  | nil hO => exact .nil
  | sl V X G hb hs hlc hcap hc hr hd hbG hO ih =>
    refine .sl (off := 0) V X (ho _ ((hO _).2 (.inl rfl))) hb hlc hcap (by simpa using hc) fun i j τ hi hj => ih i j τ hi hj (Dsc.under_getD hu j) fun b hG => ho b ((hO b).2 (.inr ⟨i, j, hi, (List.getElem?_eq_some_iff.1 hj).1, hG⟩))

theorem maskSub_refl (m : Nat) : maskSub m m = true := by simp [maskSub]
theorem maskSub_zero (m : Nat) : maskSub 0 m = true := by simp [maskSub]
theorem maskSub_bit {m m' : Nat} (h : maskSub m m' = true) {k : Nat} (hk : m.testBit k = true) : m'.testBit k = true := by
  simp only [maskSub, beq_iff_eq] at h
  rw [← h, Nat.testBit_and, Bool.and_eq_true] at hk
  exact hk.2

mutual
/-- d' says no more than d. -/
def Dsc.le : Dsc → Dsc → Bool
  | .pub m, .pub m' => maskSub m m'
  | .own ds, .pub m' => Dsc.underAll m' ds
  | .own ds, .own ds' => Dsc.leAll ds ds'
  | .pub _, .own _ => false
def Dsc.leAll : List Dsc → List Dsc → Bool
  | [], [] => true
  | d :: ds, d' :: ds' => Dsc.le d d' && Dsc.leAll ds ds'
  | _, _ => false
end

theorem Dsc.le_getD {ds ds' : List Dsc} (h : Dsc.leAll ds ds' = true) (j : Nat) : Dsc.le (ds.getD j (.pub 0)) (ds'.getD j (.pub 0)) = true := by
  induction ds generalizing ds' j with
  | nil =>
    cases ds' with
    | nil => simp [Dsc.le, maskSub]
    | cons => simp [Dsc.leAll] at h
  | cons d ds ih =>
    cases ds' with
    | nil => simp [Dsc.leAll] at h
    | cons d' ds' =>
      simp only [Dsc.leAll, Bool.and_eq_true] at h
      cases j with
      | zero => simpa using h.1
      | succ j => simpa using ih h.2 j

/-- What is owned may be held for less: parts of it are published from now on. -/
theorem Own.weaken {tl : TL} {w : World} {FP : Nat → BSet} {τ : Leaf} {d d' : Dsc} {v : Value} {x : L} {O : BSet} (h : Own tl w FP τ d v x O) (hg : Grows FP) (hle : d.le d' = true) :
    ∃ O' : BSet, (∀ c, O' c → O c) ∧ ∀ FP' : Nat → BSet, (∀ m c, FP m c → FP' m c) → (∀ m c, O c → ¬ O' c → FP' m c) → Own tl w FP' τ d' v x O' := by
  induction h generalizing d' with
  | @pub τ m v x O h hO =>
    cases d' with
    | own ds' => simp [Dsc.le] at hle
    | pub m' => exact ⟨O, fun c hc => hc, fun FP' h1 _ => .pub (h.mono fun b o hb hh => ⟨hh, h1 _ _ (hg _ _ b hle hb)⟩) hO⟩
  | @nil e ds O hO =>
    refine ⟨O, fun c hc => hc, fun FP' _ _ => ?_⟩
    cases d' with
    | own ds' => exact .nil hO
    | pub m' => exact .pub .nil hO
  | @sl e ds b len cap cs O V X G hb hs hlc hcap hc hr hd hbG hO ih =>
    cases d' with
    | pub m' =>
      refine ⟨fun _ => False, fun c hc => hc.elim, fun FP' h1 h2 => .pub ?_ fun c hc => hc⟩
      exact (Own.sl V X G hb hs hlc hcap hc hr hd hbG hO).read hg (by simpa [Dsc.le, Dsc.under] using hle) (fun b hb => h1 _ _ hb) fun b hb => h2 _ _ hb (fun h => h)
    | own ds' =>
      have hl : Dsc.leAll ds ds' = true := by simpa [Dsc.le] using hle
      have key : ∀ i j, ∃ O' : BSet, i < len → j < (tl e).length → (∀ c, O' c → G i j c) ∧ ∀ FP' : Nat → BSet, (∀ m c, FP m c → FP' m c) → (∀ m c, G i j c → ¬ O' c → FP' m c) →
          ∀ τ, (tl e)[j]? = some τ → Own tl w FP' τ (ds'.getD j (.pub 0)) (V i j) (X i j) O' := by
        intro i j
        by_cases hi : i < len
        · by_cases hj : j < (tl e).length
          · obtain ⟨O', h1, h2⟩ := ih i j _ hi (List.getElem?_eq_getElem hj) (Dsc.le_getD hl j)
            exact ⟨O', fun _ _ => ⟨h1, fun FP' a b τ hτ => by rw [List.getElem?_eq_getElem hj] at hτ; cases hτ; exact h2 FP' a b⟩⟩
          · exact ⟨fun _ => False, fun _ h => absurd h hj⟩
        · exact ⟨fun _ => False, fun h => absurd h hi⟩
      let G' : Nat → Nat → BSet := fun i j => Classical.choose (key i j)
      have hG' : ∀ i j, i < len → j < (tl e).length → (∀ c, G' i j c → G i j c) ∧ ∀ FP' : Nat → BSet, (∀ m c, FP m c → FP' m c) → (∀ m c, G i j c → ¬ G' i j c → FP' m c) →
          ∀ τ, (tl e)[j]? = some τ → Own tl w FP' τ (ds'.getD j (.pub 0)) (V i j) (X i j) (G' i j) := fun i j => Classical.choose_spec (key i j)
      refine ⟨fun c => c = b ∨ ∃ i j, i < len ∧ j < (tl e).length ∧ G' i j c, ?_, fun FP' h1 h2 => ?_⟩
      · rintro c (rfl | ⟨i, j, hi, hj, hc'⟩)
        · exact (hO _).2 (.inl rfl)
        · exact (hO _).2 (.inr ⟨i, j, hi, hj, (hG' i j hi hj).1 c hc'⟩)
      · refine .sl V X G' hb hs hlc hcap hc (fun i j τ hi hj => ?_) (fun i j i' j' c hi hi' hj hj' h3 h4 => hd i j i' j' c hi hi' hj hj' ((hG' i j hi hj).1 c h3) ((hG' i' j' hi' hj').1 c h4))
          (fun i j hi hj h3 => hbG i j hi hj ((hG' i j hi hj).1 b h3)) fun c => Iff.rfl
        have hjl := (List.getElem?_eq_some_iff.1 hj).1
        refine (hG' i j hi hjl).2 FP' h1 (fun m c hc1 hc2 => h2 m c ((hO c).2 (.inr ⟨i, j, hi, hjl, hc1⟩)) ?_) τ hj
        rintro (rfl | ⟨i', j', hi', hj', h5⟩)
        · exact hbG i j hi hjl hc1
        · obtain ⟨rfl, rfl⟩ := hd i j i' j' c hi hi' hjl hj' hc1 ((hG' i' j' hi' hj').1 c h5)
          exact hc2 h5

end Go.Lgo

namespace Go.Lgo
open Go

/-- What the checker knows of a type: is a value of it an aggregate, and its leaves. -/
structure TI where
  ok : Bool := false
  agg : Bool := false
  lv : List Leaf := []
  flds : List (Nat × TypeId) := []
  deriving Inhabited

/-- A leaf's state: owned here (its rows' leaves; the header's mark; the content's mark) · published · as another slot's leaf · not known. -/
inductive LD where
  | own (ds : List Dsc) (id cid : Nat)
  | pub (m : Nat) (cid : Nat)
  | alias (s j cid : Nat)
  | dead
  deriving Inhabited

/-- A slot's state. Slot 2t: temporary t. Slot 2t+1: the box that temporary t points to. -/
inductive EK where
  | dead
  | val (ts : List TypeId) (tup : Bool) (lds : List LD)
  | box (ty : TypeId) (id : Nat) (lds : List LD)
  | bp (k id off : Nat)
  | ep (s j id : Nat) (e : TypeId) (off : Nat)
  | pep (m : Nat) (e : TypeId) (off : Nat)
  deriving Inhabited

/-- With the slot's version: every mark that names the slot is at most it. -/
structure Ent where
  ver : Nat
  k : EK
  deriving Inhabited

def EK.lds : EK → List LD
  | .val _ _ lds => lds
  | .box _ _ lds => lds
  | _ => []

def EK.lv (tt : TypeId → TI) : EK → List Leaf
  | .val ts _ _ => ts.flatMap fun t => (tt t).lv
  | .box t _ _ => (tt t).lv
  | _ => []

def EK.holds : EK → Bool
  | .val _ _ _ => true
  | .box _ _ _ => true
  | _ => false

theorem EK.holds_of_lt {e : EK} {j : Nat} (h : j < e.lds.length) : e.holds = true := by
  cases e <;> simp_all [EK.lds, EK.holds]

abbrev Ent.lds (e : Ent) : List LD := e.k.lds

/-- One value out of its cells. -/
def pack1 (tt : TypeId → TI) (t : TypeId) (vs : List Value) : Value :=
  if (tt t).agg then .agg vs.toArray else vs.headD undef
/-- Several values out of their cells. -/
def packL (tt : TypeId → TI) : List TypeId → List Value → List Value
  | [], _ => []
  | t :: ts, vs => pack1 tt t (vs.take (tt t).lv.length) :: packL tt ts (vs.drop (tt t).lv.length)
def packs (tt : TypeId → TI) (ts : List TypeId) (tup : Bool) (vs : List Value) : Value :=
  if tup then .tuple (packL tt ts vs).toArray else (packL tt ts vs).headD undef

structure Ctx where
  P : Program
  N : Nat
  tt : TypeId → TI
  w0 : World
  C : BSet
  CB : BSet
  A : Nat → BSet

def Ctx.tl (Γ : Ctx) : TL := fun e => (Γ.tt e).lv
def Ctx.fresh (Γ : Ctx) (c : Nat) : Prop := Γ.w0.heap.size ≤ c ∨ Γ.C c
def Ctx.FP (Γ : Ctx) (X : BSet) (m : Nat) : BSet := fun c => ¬ X c ∧ (Γ.fresh c ∨ ∃ l, m.testBit l = true ∧ Γ.A l c)

theorem Ctx.grows (Γ : Ctx) (X : BSet) : Grows (Γ.FP X) := by
  rintro m m' b h ⟨h1, h2⟩
  refine ⟨h1, h2.imp id ?_⟩
  rintro ⟨l, hl, ha⟩
  exact ⟨l, maskSub_bit h hl, ha⟩
theorem Ctx.FP_mono {Γ : Ctx} {X X' : BSet} (h : ∀ c, X' c → X c) {m c : Nat} (hc : Γ.FP X m c) : Γ.FP X' m c := ⟨fun hx => hc.1 (h c hx), hc.2⟩

abbrev SS := Nat → Ent

def EK.isBox (e : EK) (id : Nat) : Prop := ∃ ty lds, e = .box ty id lds

/-- Which blocks may be written: reserved ones, owned ones, boxes. -/
def XS (S : BSet) (E : SS) (O : Nat → Nat → BSet) (B : Nat → Nat) : BSet :=
  fun c => S c ∨ (∃ k j, O k j c) ∨ ∃ k id, (E k).k.isBox id ∧ B k = c

/-- A leaf's content is as it was when it bore this mark. -/
def EK.fits (e : EK) (j cid : Nat) : Prop := (∃ ds id, e.lds[j]? = some (.own ds id cid)) ∨ ∃ m, e.lds[j]? = some (.pub m cid)
/-- A leaf's header is as it was when it bore this mark. -/
def EK.heads (e : EK) (j id : Nat) : Prop := ∃ ds cid, e.lds[j]? = some (.own ds id cid)

def LOK (Γ : Ctx) (X : BSet) (E : SS) (ρ : Nat → Row) (w : World) (V : Nat → List Value) (τ : Leaf) (ld : LD) (v : Value) (x : L) (O : BSet) : Prop :=
  match ld with
  | .own ds _ _ => Own Γ.tl w (Γ.FP X) τ (.own ds) v x O
  | .pub m _ => Rd Γ.tl w (Γ.FP X m) τ v x
  | .alias s j cid => (E s).k.fits j cid → (V s)[j]? = some v ∧ (ρ s)[j]? = some x ∧ ((E s).k.lv Γ.tt)[j]? = some τ
  | .dead => True

def TOK (Γ : Ctx) (X : BSet) (E : SS) (r : Row) (tv : Option Value) (w : World) (V : Nat → List Value) (B : Nat → Nat) (vs : List Value) (e : EK) : Prop :=
  match e with
  | .val ts tup _ => tv = some (packs Γ.tt ts tup vs)
  | .bp k id off => (E k).k.isBox id → tv = some (.pointer (some ⟨B k, off, none⟩))
  | .ep s j id e off => (E s).k.heads j id → ∃ b len cap i : Nat, (V s)[j]? = some (.slice (some ⟨b, 0, none⟩) len cap) ∧ ((E s).k.lv Γ.tt)[j]? = some (.sl e) ∧ r = [.i i] ∧ i < len ∧ tv = some (.pointer (some ⟨b, i * (Γ.tl e).length + off, none⟩))
  | .pep m e off => ∃ (b base : Nat) (cs : Array Value) (e' : TypeId) (fr : Nat × Nat) (us : List Value), w.heap[b]? = some (.cells cs e' fr) ∧ Γ.FP X m b ∧ tv = some (.pointer (some ⟨b, base + off, none⟩)) ∧
      us.length = (Γ.tl e).length ∧ r.length = (Γ.tl e).length ∧ (∀ j : Nat, j < (Γ.tl e).length → cs[base + j]? = us[j]?) ∧
      ∀ (j : Nat) τ v x, (Γ.tl e)[j]? = some τ → us[j]? = some v → r[j]? = some x → Rd Γ.tl w (Γ.FP X m) τ v x
  | _ => True

/-- What a slot's state says. -/
structure SlotOK (Γ : Ctx) (X : BSet) (E : SS) (ρ : Nat → Row) (a : Act) (w : World) (V : Nat → List Value) (O : Nat → Nat → BSet) (B : Nat → Nat) (k : Nat) : Prop where
  lenV : (E k).k.holds = true → (V k).length = (E k).lds.length
  lenR : (E k).k.holds = true → (ρ k).length = (E k).lds.length
  lenT : (E k).k.holds = true → ((E k).k.lv Γ.tt).length = (E k).lds.length
  tm : ∀ t, k = 2 * t → TOK Γ X E (ρ k) a.tmps[t]? w V B (V k) (E k).k
  bx : ∀ ty id lds, (E k).k = .box ty id lds → w.heap[B k]? = some (.cells (V k).toArray ty (0, 0)) ∧ (Γ.fresh (B k) ∨ Γ.CB (B k))
  leaf : ∀ (j : Nat) ld τ v x, (E k).lds[j]? = some ld → ((E k).k.lv Γ.tt)[j]? = some τ → (V k)[j]? = some v → (ρ k)[j]? = some x → LOK Γ X E ρ w V τ ld v x (O k j)
  own : ∀ j c, O k j c → ∃ ds id cid, (E k).lds[j]? = some (.own ds id cid)
  fresh : ∀ j c, O k j c → Γ.fresh c
  idO : ∀ (j : Nat) ds id cid, (E k).lds[j]? = some (.own ds id cid) → id ≤ (E k).ver ∧ cid ≤ (E k).ver
  idP : ∀ (j : Nat) m cid, (E k).lds[j]? = some (.pub m cid) → cid ≤ (E k).ver
  idA : ∀ (j : Nat) s j' cid, (E k).lds[j]? = some (.alias s j' cid) → cid ≤ (E s).ver
  idB : ∀ ty id lds, (E k).k = .box ty id lds → id ≤ (E k).ver
  idK : ∀ k' id off, (E k).k = .bp k' id off → id ≤ (E k').ver
  idE : ∀ s j id e off, (E k).k = .ep s j id e off → id ≤ (E s).ver
  oc : ∀ v, v ∈ V k → v.oneCell' = true

structure InvG (Γ : Ctx) (S : BSet) (E : SS) (ρ : Nat → Row) (a : Act) (w : World) (V : Nat → List Value) (O : Nat → Nat → BSet) (B : Nat → Nat) : Prop where
  os : w.os = Γ.w0.os
  tape : w.tape = Γ.w0.tape
  output : w.output = Γ.w0.output
  size : Γ.w0.heap.size ≤ w.heap.size
  old : ∀ c, c < Γ.w0.heap.size → ¬ Γ.C c → ¬ Γ.CB c → w.heap[c]? = Γ.w0.heap[c]?
  defers : a.defers = []
  tsz : a.tmps.size = Γ.N
  slot : ∀ k, SlotOK Γ (XS S E O B) E ρ a w V O B k
  disj : ∀ k j k' j' c, O k j c → O k' j' c → k = k' ∧ j = j'
  bdisj : ∀ k id k' id', (E k).k.isBox id → (E k').k.isBox id' → B k = B k' → k = k'
  bown : ∀ k id k' j', (E k).k.isBox id → ¬ O k' j' (B k)
  sown : ∀ c k j, S c → ¬ O k j c
  sbox : ∀ c k id, S c → (E k).k.isBox id → B k ≠ c
  sfr : ∀ c, S c → Γ.fresh c ∨ Γ.CB c

def Inv (Γ : Ctx) (S : BSet) (E : SS) (ρ : Nat → Row) (a : Act) (w : World) : Prop := ∃ V O B, InvG Γ S E ρ a w V O B

def upd {α : Type} (f : Nat → α) (k : Nat) (x : α) : Nat → α := fun k' => if k' = k then x else f k'
theorem upd_same {α : Type} (f : Nat → α) (k : Nat) (x : α) : upd f k x k = x := by simp [upd]
theorem upd_ne {α : Type} (f : Nat → α) {k k' : Nat} (x : α) (h : k' ≠ k) : upd f k x k' = f k' := by simp [upd, h]

section
variable {Γ : Ctx} {S S' X X' : BSet} {E E' : SS} {ρ ρ' : Nat → Row} {a a' : Act} {w w' : World} {V V' : Nat → List Value} {O O' : Nat → Nat → BSet} {B B' : Nat → Nat}

/-- A slot that is left alone stays right. -/
theorem SlotOK.keep {k : Nat} (h : SlotOK Γ X E ρ a w V O B k) (hE : E' k = E k) (hρ : ρ' k = ρ k) (hV : V' k = V k) (hO : O' k = O k) (hB : B' k = B k)
    (ht : ∀ t, k = 2 * t → a'.tmps[t]? = a.tmps[t]?)
    (hX : ∀ c o, ¬ X c → w.heap[c]? = some o → ¬ X' c)
    (hw : ∀ c o, (¬ X c ∨ (∃ j, O k j c) ∨ ((∃ id, (E k).k.isBox id) ∧ B k = c)) → w.heap[c]? = some o → w'.heap[c]? = some o)
    (hver : ∀ s, (E s).ver ≤ (E' s).ver)
    (hfit : ∀ s j cid, cid ≤ (E s).ver → (E' s).k.fits j cid → (E s).k.fits j cid ∧ (V' s)[j]? = (V s)[j]? ∧ (ρ' s)[j]? = (ρ s)[j]? ∧ ((E' s).k.lv Γ.tt)[j]? = ((E s).k.lv Γ.tt)[j]?)
    (hhead : ∀ s j id, id ≤ (E s).ver → (E' s).k.heads j id → (E s).k.heads j id ∧ (V' s)[j]? = (V s)[j]? ∧ ((E' s).k.lv Γ.tt)[j]? = ((E s).k.lv Γ.tt)[j]?)
    (hbox : ∀ s id, id ≤ (E s).ver → (E' s).k.isBox id → (E s).k.isBox id ∧ B' s = B s) : SlotOK Γ X' E' ρ' a' w' V' O' B' k := by
  have hFP : ∀ m c o, Γ.FP X m c → w.heap[c]? = some o → w'.heap[c]? = some o ∧ Γ.FP X' m c := fun m c o hc ho => ⟨hw c o (.inl hc.1) ho, hX c o hc.1 ho, hc.2⟩
  constructor
  · rw [hE, hV]; exact h.lenV
  · rw [hE, hρ]; exact h.lenR
  · rw [hE]; exact h.lenT
  · intro t hk
    have h0 := h.tm t hk
    rw [hE, hρ, hV, ht t hk]
    revert h0
    unfold TOK
    cases hek : (E k).k with
    | dead => exact id
    | val ts tup lds => exact id
    | box ty id lds => exact fun h => h
    | bp k' id off =>
      intro h0 hb
      obtain ⟨h1, h2⟩ := hbox k' id (h.idK _ _ _ hek) hb
      rw [h2]; exact h0 h1
    | ep s j id e off =>
      intro h0 hb
      obtain ⟨h1, h2, h3⟩ := hhead s j id (h.idE _ _ _ _ _ hek) hb
      obtain ⟨b, len, cap, i, g1, g2, g3⟩ := h0 h1
      exact ⟨b, len, cap, i, by rw [h2]; exact g1, by rw [h3]; exact g2, g3⟩
    | pep m e off =>
      rintro ⟨b, base, cs, e', fr, us, h1, h2, h3, h4, h5, h6, h7⟩
      exact ⟨b, base, cs, e', fr, us, (hFP m b _ h2 h1).1, (hFP m b _ h2 h1).2, h3, h4, h5, h6, fun j τ v x a1 a2 a3 => (h7 j τ v x a1 a2 a3).mono fun c o hc ho => hFP m c o hc ho⟩
  · intro ty id lds hk
    rw [hE] at hk
    rw [hB, hV]
    exact ⟨hw _ _ (.inr (.inr ⟨⟨id, ty, lds, hk⟩, rfl⟩)) (h.bx ty id lds hk).1, (h.bx ty id lds hk).2⟩
  · intro j ld τ v x h1 h2 h3 h4
    rw [hE] at h1 h2; rw [hV] at h3; rw [hρ] at h4; rw [hO]
    have h0 := h.leaf j ld τ v x h1 h2 h3 h4
    revert h0
    unfold LOK
    cases ld with
    | own ds id cid => exact fun h0 => h0.mono (fun m b o hb ho => hFP m b o hb ho) fun b o hb ho => hw b o (.inr (.inl ⟨j, hb⟩)) ho
    | pub m cid => exact fun h0 => h0.mono fun b o hb ho => hFP m b o hb ho
    | dead => exact id
    | alias s j' cid =>
      intro h0 hf
      obtain ⟨g1, g2, g3, g4⟩ := hfit s j' cid (h.idA j s j' cid h1) hf
      obtain ⟨k1, k2, k3⟩ := h0 g1
      exact ⟨by rw [g2]; exact k1, by rw [g3]; exact k2, by rw [g4]; exact k3⟩
  · intro j c hc
    rw [hO] at hc; rw [hE]; exact h.own j c hc
  · intro j c hc
    rw [hO] at hc; exact h.fresh j c hc
  · rw [hE]; exact h.idO
  · rw [hE]; exact h.idP
  · intro j s j' cid hl
    rw [hE] at hl
    exact Nat.le_trans (h.idA j s j' cid hl) (hver s)
  · rw [hE]; exact h.idB
  · intro k' id off hl
    rw [hE] at hl
    exact Nat.le_trans (h.idK _ _ _ hl) (hver _)
  · intro s j id e off hl
    rw [hE] at hl
    exact Nat.le_trans (h.idE _ _ _ _ _ hl) (hver _)
  · intro v hv
    rw [hV] at hv
    exact h.oc v hv

/-- What belongs to a slot, is reserved, or is new. -/
def Mine (S : BSet) (E : SS) (w : World) (O : Nat → Nat → BSet) (B : Nat → Nat) (k0 : Nat) : BSet :=
  fun c => S c ∨ (∃ j, O k0 j c) ∨ ((∃ id, (E k0).k.isBox id) ∧ B k0 = c) ∨ w.heap.size ≤ c

/-- **One slot is written anew**; of the memory only what it had, what is reserved and what is new may have turned. -/
theorem InvG.write (h : InvG Γ S E ρ a w V O B) (k0 : Nat) (e' : Ent) (V0 : List Value) (r0 : Row) (O0 : Nat → BSet) (B0 : Nat)
    (hver : (E k0).ver ≤ e'.ver)
    (hfit : ∀ j cid, cid ≤ (E k0).ver → e'.k.fits j cid → (E k0).k.fits j cid ∧ V0[j]? = (V k0)[j]? ∧ r0[j]? = (ρ k0)[j]? ∧ (e'.k.lv Γ.tt)[j]? = ((E k0).k.lv Γ.tt)[j]?)
    (hhead : ∀ j id, id ≤ (E k0).ver → e'.k.heads j id → (E k0).k.heads j id ∧ V0[j]? = (V k0)[j]? ∧ (e'.k.lv Γ.tt)[j]? = ((E k0).k.lv Γ.tt)[j]?)
    (hbox : ∀ id, id ≤ (E k0).ver → e'.k.isBox id → (E k0).k.isBox id ∧ B0 = B k0)
    (htm : ∀ t, k0 ≠ 2 * t → a'.tmps[t]? = a.tmps[t]?) (hdef : a'.defers = []) (htz : a'.tmps.size = a.tmps.size)
    (hos : w'.os = w.os) (htape : w'.tape = w.tape) (hout : w'.output = w.output) (hsize : w.heap.size ≤ w'.heap.size)
    (hw : ∀ c o, w.heap[c]? = some o → ¬ Mine S E w O B k0 c → w'.heap[c]? = some o)
    (hS' : ∀ c, S' c → Mine S E w O B k0 c) (hO0 : ∀ j c, O0 j c → Mine S E w O B k0 c) (hB0 : ∀ id, e'.k.isBox id → Mine S E w O B k0 B0)
    (hdis : ∀ j j' c, O0 j c → O0 j' c → j = j') (hSO : ∀ c j, S' c → ¬ O0 j c) (hSB : ∀ c id, S' c → e'.k.isBox id → B0 ≠ c) (hBO : ∀ id j, e'.k.isBox id → ¬ O0 j B0)
    (hSf : ∀ c, S' c → Γ.fresh c ∨ Γ.CB c)
    (hself : SlotOK Γ (XS S' (upd E k0 e') (upd O k0 O0) (upd B k0 B0)) (upd E k0 e') (upd ρ k0 r0) a' w' (upd V k0 V0) (upd O k0 O0) (upd B k0 B0) k0) :
    InvG Γ S' (upd E k0 e') (upd ρ k0 r0) a' w' (upd V k0 V0) (upd O k0 O0) (upd B k0 B0) := by
  have nm : ∀ c k j, k ≠ k0 → O k j c → ¬ Mine S E w O B k0 c := by
    rintro c k j hk ho (hs | ⟨j', ho'⟩ | ⟨⟨id, hb⟩, rfl⟩ | hge)
    · exact h.sown c k j hs ho
    · exact hk (h.disj _ _ _ _ _ ho ho').1
    · exact h.bown k0 id k j hb ho
    · have hr := h.slot k
      obtain ⟨ds, id, cid, hl⟩ := hr.own j c ho
      have hlt : j < (E k).lds.length := (List.getElem?_eq_some_iff.1 hl).1
      have hh : (E k).k.holds = true := EK.holds_of_lt hlt
      have e1 := hr.lenT hh; have e2 := hr.lenV hh; have e3 := hr.lenR hh
      have hlk := hr.leaf j _ (((E k).k.lv Γ.tt)[j]'(by omega)) ((V k)[j]'(by omega)) ((ρ k)[j]'(by omega)) hl (by simp) (by simp) (by simp)
      have := Own.lt hlk ho
      omega
  have nb : ∀ c k id, k ≠ k0 → (E k).k.isBox id → B k = c → ¬ Mine S E w O B k0 c := by
    rintro c k id hk ⟨ty, lds, hb⟩ rfl (hs | ⟨j', ho'⟩ | ⟨⟨id', hb'⟩, he⟩ | hge)
    · exact h.sbox _ k id hs ⟨ty, lds, hb⟩ rfl
    · exact h.bown k id _ _ ⟨ty, lds, hb⟩ ho'
    · exact hk (h.bdisj _ _ _ _ ⟨ty, lds, hb⟩ hb' he.symm)
    · have := (Array.getElem?_eq_some_iff.1 ((h.slot k).bx ty id lds hb).1).1
      omega
  have mx : ∀ c, Mine S E w O B k0 c → XS S E O B c ∨ w.heap.size ≤ c := by
    rintro c (hs | ⟨j', ho'⟩ | ⟨⟨id', hb'⟩, he⟩ | hge)
    · exact .inl (.inl hs)
    · exact .inl (.inr (.inl ⟨_, _, ho'⟩))
    · exact .inl (.inr (.inr ⟨_, _, hb', he⟩))
    · exact .inr hge
  have hX : ∀ c o, ¬ XS S E O B c → w.heap[c]? = some o → ¬ XS S' (upd E k0 e') (upd O k0 O0) (upd B k0 B0) c := by
    intro c o hc ho hx
    have hlt := (Array.getElem?_eq_some_iff.1 ho).1
    have no : ¬ Mine S E w O B k0 c := fun hm => (mx c hm).elim hc fun hge => by omega
    rcases hx with hs | ⟨k, j, hk⟩ | ⟨k, id, hb, he⟩
    · exact no (hS' c hs)
    · by_cases e : k = k0
      · subst e; rw [upd_same] at hk; exact no (hO0 j c hk)
      · rw [upd_ne _ _ e] at hk; exact hc (.inr (.inl ⟨k, j, hk⟩))
    · by_cases e : k = k0
      · subst e; rw [upd_same] at hb he; subst he; exact no (hB0 id hb)
      · rw [upd_ne _ _ e] at hb he; exact hc (.inr (.inr ⟨k, id, hb, he⟩))
  constructor
  · rw [hos]; exact h.os
  · rw [htape]; exact h.tape
  · rw [hout]; exact h.output
  · exact Nat.le_trans h.size hsize
  · intro c hc h1 h2
    have ho := h.old c hc h1 h2
    have hlt : c < w.heap.size := Nat.lt_of_lt_of_le hc h.size
    obtain ⟨o, hoo⟩ : ∃ o, w.heap[c]? = some o := ⟨_, Array.getElem?_eq_getElem hlt⟩
    have hnf : ¬ Γ.fresh c := by rintro (h3 | h3); omega; exact h1 h3
    rw [← ho, hoo]
    refine hw c o hoo ?_
    rintro (hs | ⟨j', ho'⟩ | ⟨⟨id', ty, lds, hb'⟩, he⟩ | hge)
    · exact (h.sfr c hs).elim hnf h2
    · exact hnf ((h.slot k0).fresh j' c ho')
    · have := ((h.slot k0).bx ty id' lds hb').2
      rw [he] at this
      exact this.elim hnf h2
    · omega
  · exact hdef
  · rw [htz]; exact h.tsz
  · intro k
    by_cases e : k = k0
    · subst e; exact hself
    · refine (h.slot k).keep (upd_ne _ _ e) (upd_ne _ _ e) (upd_ne _ _ e) (upd_ne _ _ e) (upd_ne _ _ e) (fun t ht => htm t (by omega)) hX ?_ ?_ ?_ ?_ ?_
      · rintro c o (hc | ⟨j, hc⟩ | ⟨⟨id, hb⟩, he⟩) ho
        · exact hw c o ho fun hm => (mx c hm).elim hc fun hge => by have := (Array.getElem?_eq_some_iff.1 ho).1; omega
        · exact hw c o ho (nm c k j e hc)
        · exact hw c o ho (nb c k id e hb he)
      · intro s
        by_cases e : s = k0
        · subst e; rw [upd_same]; exact hver
        · rw [upd_ne _ _ e]; exact Nat.le_refl _
      · intro s j cid hc
        by_cases e : s = k0
        · subst e; rw [upd_same, upd_same, upd_same]; exact hfit j cid hc
        · rw [upd_ne _ _ e, upd_ne _ _ e, upd_ne _ _ e]; exact fun h => ⟨h, rfl, rfl, rfl⟩
      · intro s j id hc
        by_cases e : s = k0
        · subst e; rw [upd_same, upd_same]; exact hhead j id hc
        · rw [upd_ne _ _ e, upd_ne _ _ e]; exact fun h => ⟨h, rfl, rfl⟩
      · intro s id hc
        by_cases e : s = k0
        · subst e; rw [upd_same, upd_same]; exact hbox id hc
        · rw [upd_ne _ _ e, upd_ne _ _ e]; exact fun h => ⟨h, rfl⟩
  · intro k j k' j' c h1 h2
    by_cases e : k = k0
    · subst e
      rw [upd_same] at h1
      by_cases e' : k' = k
      · subst e'; rw [upd_same] at h2; exact ⟨rfl, hdis _ _ _ h1 h2⟩
      · rw [upd_ne _ _ e'] at h2; exact absurd (hO0 _ _ h1) (nm c k' j' e' h2)
    · rw [upd_ne _ _ e] at h1
      by_cases e' : k' = k0
      · subst e'; rw [upd_same] at h2; exact absurd (hO0 _ _ h2) (nm c k j e h1)
      · rw [upd_ne _ _ e'] at h2; exact h.disj _ _ _ _ _ h1 h2
  · intro k id k' id' h1 h2 h3
    by_cases e : k = k0
    · subst e
      by_cases e' : k' = k
      · exact e'.symm
      · rw [upd_same] at h1 h3; rw [upd_ne _ _ e'] at h2 h3
        exact absurd (hB0 id h1) (nb _ k' id' e' h2 h3.symm)
    · rw [upd_ne _ _ e] at h1 h3
      by_cases e' : k' = k0
      · subst e'; rw [upd_same] at h2 h3
        exact absurd (hB0 id' h2) (nb _ k id e h1 h3)
      · rw [upd_ne _ _ e'] at h2 h3; exact h.bdisj _ _ _ _ h1 h2 h3
  · intro k id k' j' h1 h2
    by_cases e : k = k0
    · subst e
      rw [upd_same] at h1 h2
      by_cases e' : k' = k
      · subst e'; rw [upd_same] at h2; exact hBO id j' h1 h2
      · rw [upd_ne _ _ e'] at h2; exact nm _ k' j' e' h2 (hB0 id h1)
    · rw [upd_ne _ _ e] at h1 h2
      by_cases e' : k' = k0
      · subst e'; rw [upd_same] at h2; exact nb _ k id e h1 rfl (hO0 _ _ h2)
      · rw [upd_ne _ _ e'] at h2; exact h.bown _ _ _ _ h1 h2
  · intro c k j h1 h2
    by_cases e : k = k0
    · subst e; rw [upd_same] at h2; exact hSO c j h1 h2
    · rw [upd_ne _ _ e] at h2; exact nm c k j e h2 (hS' c h1)
  · intro c k id h1 h2 h3
    by_cases e : k = k0
    · subst e; rw [upd_same] at h2 h3; exact hSB c id h1 h2 h3
    · rw [upd_ne _ _ e] at h2 h3; exact nb c k id e h2 h3 (hS' c h1)
  · exact hSf

end

end Go.Lgo

namespace Go.Lgo
open Go

/-- A leaf as a step leaves it: its marks are the slot's new version. -/
inductive NL where
  | own (ds : List Dsc)
  | pub (m : Nat)
  | alias (s j cid : Nat)
  | dead
  deriving Inhabited

def NL.ld (v : Nat) : NL → LD
  | .own ds => .own ds v v
  | .pub m => .pub m v
  | .alias s j cid => .alias s j cid
  | .dead => .dead

theorem NL.ld_own {v : Nat} {nl : NL} {ds : List Dsc} {id cid : Nat} (h : nl.ld v = .own ds id cid) : nl = .own ds ∧ id = v ∧ cid = v := by
  cases nl <;> simp only [NL.ld, LD.own.injEq, reduceCtorEq] at h
  obtain ⟨rfl, rfl, rfl⟩ := h
  exact ⟨rfl, rfl, rfl⟩
theorem NL.ld_pub {v : Nat} {nl : NL} {m cid : Nat} (h : nl.ld v = .pub m cid) : nl = .pub m ∧ cid = v := by
  cases nl <;> simp_all [NL.ld]
theorem NL.ld_alias {v : Nat} {nl : NL} {s j cid : Nat} (h : nl.ld v = .alias s j cid) : nl = .alias s j cid := by
  cases nl <;> simp_all [NL.ld]

section
variable {Γ : Ctx} {S S' X X' : BSet} {E E' : SS} {ρ ρ' : Nat → Row} {a a' : Act} {w w' : World} {V V' : Nat → List Value} {O O' : Nat → Nat → BSet} {B B' : Nat → Nat}

/-- What may be published behind a step: what could be, and was there; and N. -/
def GF (Γ : Ctx) (X : BSet) (w : World) (N : BSet) (m : Nat) : BSet := fun c => (Γ.FP X m c ∧ c < w.heap.size) ∨ N c

/-- What is asked of a leaf that a step has written. -/
def NLOK (Γ : Ctx) (X : BSet) (E : SS) (ρ : Nat → Row) (w w' : World) (V : Nat → List Value) (N : BSet) (k0 : Nat) (τ : Leaf) (nl : NL) (v : Value) (x : L) (O : BSet) : Prop :=
  match nl with
  | .own ds => Own Γ.tl w' (GF Γ X w N) τ (.own ds) v x O
  | .pub m => Rd Γ.tl w' (GF Γ X w N m) τ v x
  | .alias s j cid => s ≠ k0 ∧ cid ≤ (E s).ver ∧ ((E s).k.fits j cid → (V s)[j]? = some v ∧ (ρ s)[j]? = some x ∧ ((E s).k.lv Γ.tt)[j]? = some τ)
  | .dead => True

theorem XS_upd {k0 : Nat} {e' : Ent} {O0 : Nat → BSet} {B0 : Nat} {c : Nat} (h : XS S' (upd E k0 e') (upd O k0 O0) (upd B k0 B0) c) :
    S' c ∨ (∃ j, O0 j c) ∨ ((∃ id, e'.k.isBox id) ∧ B0 = c) ∨ (∃ k j, k ≠ k0 ∧ O k j c) ∨ ∃ k id, k ≠ k0 ∧ (E k).k.isBox id ∧ B k = c := by
  rcases h with h | ⟨k, j, h⟩ | ⟨k, id, h, h'⟩
  · exact .inl h
  · by_cases e : k = k0
    · subst e; rw [upd_same] at h; exact .inr (.inl ⟨j, h⟩)
    · rw [upd_ne _ _ e] at h; exact .inr (.inr (.inr (.inl ⟨k, j, e, h⟩)))
  · by_cases e : k = k0
    · subst e; rw [upd_same] at h h'; exact .inr (.inr (.inl ⟨⟨id, h⟩, h'⟩))
    · rw [upd_ne _ _ e] at h h'; exact .inr (.inr (.inr (.inr ⟨k, id, e, h, h'⟩)))

theorem InvG.lt_of_own (h : InvG Γ S E ρ a w V O B) {k j c : Nat} (ho : O k j c) : c < w.heap.size := by
  have hr := h.slot k
  obtain ⟨ds, id, cid, hl⟩ := hr.own j c ho
  have hlt : j < (E k).lds.length := (List.getElem?_eq_some_iff.1 hl).1
  have hh : (E k).k.holds = true := EK.holds_of_lt hlt
  have e1 := hr.lenT hh; have e2 := hr.lenV hh; have e3 := hr.lenR hh
  have hlk := hr.leaf j _ (((E k).k.lv Γ.tt)[j]'(by omega)) ((V k)[j]'(by omega)) ((ρ k)[j]'(by omega)) hl (by simp) (by simp) (by simp)
  exact Own.lt hlk ho
theorem InvG.lt_of_box (h : InvG Γ S E ρ a w V O B) {k id : Nat} (hb : (E k).k.isBox id) : B k < w.heap.size := by
  obtain ⟨ty, lds, hb⟩ := hb
  exact (Array.getElem?_eq_some_iff.1 ((h.slot k).bx ty id lds hb).1).1

/-- What lies in the new set of what may be written, of what was there, lay in the old one. -/
theorem XS_back (_h : InvG Γ S E ρ a w V O B) {k0 : Nat} {e' : Ent} {O0 : Nat → BSet} {B0 : Nat}
    (hS' : ∀ c, S' c → Mine S E w O B k0 c) (hO0 : ∀ j c, O0 j c → Mine S E w O B k0 c) (hB0 : ∀ id, e'.k.isBox id → Mine S E w O B k0 B0) {c : Nat}
    (hc : XS S' (upd E k0 e') (upd O k0 O0) (upd B k0 B0) c) : XS S E O B c ∨ w.heap.size ≤ c := by
  have mx : ∀ c, Mine S E w O B k0 c → XS S E O B c ∨ w.heap.size ≤ c := by
    rintro c (hs | ⟨j', ho'⟩ | ⟨⟨id', hb'⟩, he⟩ | hge)
    · exact .inl (.inl hs)
    · exact .inl (.inr (.inl ⟨_, _, ho'⟩))
    · exact .inl (.inr (.inr ⟨_, _, hb', he⟩))
    · exact .inr hge
  rcases XS_upd hc with h1 | ⟨j, h1⟩ | ⟨⟨id, h1⟩, rfl⟩ | ⟨k, j, _, h1⟩ | ⟨k, id, _, h1, h2⟩
  · exact mx c (hS' c h1)
  · exact mx c (hO0 j c h1)
  · exact mx _ (hB0 id h1)
  · exact .inl (.inr (.inl ⟨k, j, h1⟩))
  · exact .inl (.inr (.inr ⟨k, id, h1, h2⟩))

/-- **A temporary is set.** What is reserved (S) goes to its leaves (Os), is published (N), stays reserved (S') or is let go. -/
theorem InvG.setTmp (h : InvG Γ S E ρ a w V O B) (t : Nat) (ts : List TypeId) (tup : Bool) (nls : List NL) (vs : List Value) (r : Row) (Os : Nat → BSet) (N : BSet)
    (hos : w'.os = w.os) (htape : w'.tape = w.tape) (hout : w'.output = w.output) (hsize : w.heap.size ≤ w'.heap.size)
    (hw : ∀ c o, w.heap[c]? = some o → ¬ S c → w'.heap[c]? = some o)
    (hS' : ∀ c, S' c → S c ∨ w.heap.size ≤ c) (hO0 : ∀ j c, Os j c → S c ∨ w.heap.size ≤ c)
    (hN : ∀ c, N c → (S c ∨ w.heap.size ≤ c) ∧ Γ.fresh c ∧ ¬ S' c ∧ ∀ j, ¬ Os j c)
    (hdis : ∀ j j' c, Os j c → Os j' c → j = j') (hSO : ∀ c j, S' c → ¬ Os j c) (hOf : ∀ j c, Os j c → Γ.fresh c) (hSf : ∀ c, S' c → Γ.fresh c ∨ Γ.CB c)
    (hOn : ∀ j c, Os j c → ∃ ds, nls[j]? = some (.own ds))
    (hoc : ∀ v, v ∈ vs → v.oneCell' = true) (htm : a.tmps.size > t) (hv : vs.length = nls.length) (hr : r.length = nls.length) (hl : (ts.flatMap fun t => (Γ.tt t).lv).length = nls.length)
    (hleaf : ∀ (j : Nat) nl τ v x, nls[j]? = some nl → (ts.flatMap fun t => (Γ.tt t).lv)[j]? = some τ → vs[j]? = some v → r[j]? = some x → NLOK Γ (XS S E O B) E ρ w w' V N (2 * t) τ nl v x (Os j)) :
    InvG Γ S' (upd E (2 * t) ⟨(E (2 * t)).ver + 1, .val ts tup (nls.map (NL.ld ((E (2 * t)).ver + 1)))⟩) (upd ρ (2 * t) r) { a with tmps := a.tmps.setIfInBounds t (packs Γ.tt ts tup vs) } w' (upd V (2 * t) vs) (upd O (2 * t) Os) (upd B (2 * t) 0) := by
  let e' : Ent := ⟨(E (2 * t)).ver + 1, .val ts tup (nls.map (NL.ld ((E (2 * t)).ver + 1)))⟩
  have hget : ∀ j : Nat, e'.lds[j]? = (nls[j]?).map (NL.ld ((E (2 * t)).ver + 1)) := fun j => by simp [e', Ent.lds, EK.lds]
  have nb : ∀ id, ¬ e'.k.isBox id := by rintro id ⟨ty, lds, hh⟩; simp [e'] at hh
  have nfit : ∀ j cid, cid ≤ (E (2 * t)).ver → ¬ e'.k.fits j cid := by
    rintro j cid hc (⟨ds, id, hh⟩ | ⟨m, hh⟩)
    · have h1 := hget j; rw [show e'.lds = e'.k.lds from rfl, hh] at h1
      obtain ⟨nl, _, h2⟩ := Option.map_eq_some_iff.1 h1.symm
      have := (NL.ld_own h2).2.2; omega
    · have h1 := hget j; rw [show e'.lds = e'.k.lds from rfl, hh] at h1
      obtain ⟨nl, _, h2⟩ := Option.map_eq_some_iff.1 h1.symm
      have := (NL.ld_pub h2).2; omega
  have nhead : ∀ j id, id ≤ (E (2 * t)).ver → ¬ e'.k.heads j id := by
    rintro j id hc ⟨ds, cid, hh⟩
    have h1 := hget j; rw [show e'.lds = e'.k.lds from rfl, hh] at h1
    obtain ⟨nl, _, h2⟩ := Option.map_eq_some_iff.1 h1.symm
    have := (NL.ld_own h2).2.1; omega
  have mS : ∀ c, S c ∨ w.heap.size ≤ c → Mine S E w O B (2 * t) c := fun c hc => hc.elim .inl fun h => .inr (.inr (.inr h))
  have hfp : ∀ m c, GF Γ (XS S E O B) w N m c → Γ.FP (XS S' (upd E (2 * t) e') (upd O (2 * t) Os) (upd B (2 * t) 0)) m c := by
    rintro m c (⟨⟨h1, h2⟩, h3⟩ | hn)
    · refine ⟨fun hx => ?_, h2⟩
      rcases XS_back h (k0 := 2 * t) (e' := e') (fun c hc => mS c (hS' c hc)) (fun j c hc => mS c (hO0 j c hc)) (fun id hb => absurd hb (nb id)) hx with hx | hx
      · exact h1 hx
      · omega
    · obtain ⟨h1, h2, h3, h4⟩ := hN c hn
      refine ⟨fun hx => ?_, .inl h2⟩
      rcases XS_upd hx with h5 | ⟨j, h5⟩ | ⟨⟨id, h5⟩, _⟩ | ⟨k, j, _, h5⟩ | ⟨k, id, _, h5, h6⟩
      · exact h3 h5
      · exact h4 j h5
      · exact nb id h5
      · rcases h1 with h1 | h1
        · exact h.sown c k j h1 h5
        · have := h.lt_of_own h5; omega
      · rcases h1 with h1 | h1
        · exact h.sbox c k id h1 h5 h6
        · have := h.lt_of_box h5; omega
  refine h.write (2 * t) e' vs r Os 0 (Nat.le_succ _) (fun j cid hc hf => absurd hf (nfit j cid hc)) (fun j id hc hf => absurd hf (nhead j id hc)) (fun id _ hb => absurd hb (nb id))
    (fun t' ht' => by simp [show t ≠ t' by omega]) h.defers (by simp) hos htape hout hsize (fun c o ho hm => hw c o ho fun hs => hm (.inl hs)) (fun c hc => mS c (hS' c hc)) (fun j c hc => mS c (hO0 j c hc)) (fun id hb => absurd hb (nb id)) hdis hSO (fun c id _ hb => absurd hb (nb id)) (fun id j hb => absurd hb (nb id)) hSf ?_
  constructor
  · intro _; simp [upd_same, e', Ent.lds, EK.lds, hv]
  · intro _; simp [upd_same, e', Ent.lds, EK.lds, hr]
  · intro _; simp only [upd_same, e', Ent.lds, EK.lds, EK.lv, List.length_map]; exact hl
  · intro t' ht'
    have : t' = t := by omega
    subst this
    simp [upd_same, e', TOK, htm]
  · intro ty id lds hk; simp [upd_same, e'] at hk
  · intro j ld τ v x h1 h2 h3 h4
    rw [upd_same] at h1 h2 h3 h4
    rw [hget] at h1
    obtain ⟨nl, hn, rfl⟩ := Option.map_eq_some_iff.1 h1
    have h0 := hleaf j nl τ v x hn h2 h3 h4
    rw [upd_same]
    revert h0
    cases nl with
    | dead => exact fun _ => trivial
    | own ds => exact fun h0 => Own.mono h0 (fun m b o hb ho => ⟨ho, hfp m b hb⟩) fun b o _ ho => ho
    | pub m => exact fun h0 => Rd.mono h0 fun b o hb ho => ⟨ho, hfp m b hb⟩
    | alias s j' cid =>
      rintro ⟨g1, g2, g3⟩
      show (upd E (2 * t) e' s).k.fits j' cid → _
      rw [upd_ne _ _ g1, upd_ne _ _ g1, upd_ne _ _ g1]
      exact g3
  · intro j c hc
    rw [upd_same] at hc
    obtain ⟨ds, hn⟩ := hOn j c hc
    rw [upd_same, hget, hn]
    exact ⟨ds, _, _, rfl⟩
  · intro j c hc
    rw [upd_same] at hc
    exact hOf j c hc
  · intro j ds id cid hl
    rw [upd_same, hget] at hl
    obtain ⟨nl, _, h2⟩ := Option.map_eq_some_iff.1 hl
    obtain ⟨_, rfl, rfl⟩ := NL.ld_own h2
    rw [upd_same]; exact ⟨Nat.le_refl _, Nat.le_refl _⟩
  · intro j m cid hl
    rw [upd_same, hget] at hl
    obtain ⟨nl, _, h2⟩ := Option.map_eq_some_iff.1 hl
    obtain ⟨_, rfl⟩ := NL.ld_pub h2
    rw [upd_same]; exact Nat.le_refl _
  · intro j s j' cid hl
    rw [upd_same, hget] at hl
    obtain ⟨nl, hn, h2⟩ := Option.map_eq_some_iff.1 hl
    have h3 := NL.ld_alias h2
    subst h3
    have hjl : j < nls.length := (List.getElem?_eq_some_iff.1 hn).1
    obtain ⟨g1, g2, _⟩ := hleaf j _ ((ts.flatMap fun t => (Γ.tt t).lv)[j]'(by omega)) (vs[j]'(by omega)) (r[j]'(by omega)) hn (by simp) (by simp) (by simp)
    rw [upd_ne _ _ g1]
    exact g2
  · intro ty id lds hk; simp [upd_same, e'] at hk
  · intro k' id off hk; simp [upd_same, e'] at hk
  · intro s j id e off hk; simp [upd_same, e'] at hk
  · rw [upd_same]; exact hoc

theorem upd_self {α : Type} (f : Nat → α) (k : Nat) : upd f k (f k) = f := by
  funext k'; by_cases h : k' = k
  · subst h; simp [upd]
  · simp [upd, h]

def EK.setLds (e : EK) (lds : List LD) : EK :=
  match e with
  | .val ts tup _ => .val ts tup lds
  | .box ty id _ => .box ty id lds
  | e => e

theorem EK.setLds_lds {e : EK} (lds : List LD) (h : e.holds = true) : (e.setLds lds).lds = lds := by cases e <;> simp_all [EK.setLds, EK.lds, EK.holds]
theorem EK.setLds_lv {e : EK} (lds : List LD) (tt : TypeId → TI) : (e.setLds lds).lv tt = e.lv tt := by cases e <;> simp [EK.setLds, EK.lv]
theorem EK.setLds_holds {e : EK} (lds : List LD) : (e.setLds lds).holds = e.holds := by cases e <;> simp [EK.setLds, EK.holds]
theorem EK.setLds_box {e : EK} (lds : List LD) (id : Nat) : (e.setLds lds).isBox id ↔ e.isBox id := by cases e <;> simp [EK.setLds, EK.isBox]

/-- What becomes of a leaf whose slot is only told otherwise: as it was · forgotten · published · held for less. -/
def RLOK (Γ : Ctx) (X : BSet) (w : World) (N : BSet) (τ : Leaf) (old new : LD) (v : Value) (x : L) (Oo On : BSet) : Prop :=
  match new with
  | .dead => True
  | .alias s j cid => old = .alias s j cid
  | .pub m cid => (old = .pub m cid) ∨ ∃ ds id, old = .own ds id cid ∧ Dsc.underAll m ds = true ∧ ∀ c, Oo c → N c
  | .own ds' id cid => (old = .own ds' id cid ∧ On = Oo) ∨ ∃ ds, old = .own ds id cid ∧ ∀ FP' : Nat → BSet, (∀ m c, Γ.FP X m c → FP' m c) → (∀ m c, N c → FP' m c) → Own Γ.tl w FP' τ (.own ds') v x On

/-- **A slot is told otherwise**: nothing of the machine turns. -/
theorem InvG.relabel (h : InvG Γ S E ρ a w V O B) (k0 : Nat) (lds' : List LD) (O0 : Nat → BSet) (hh : (E k0).k.holds = true) (hlen : lds'.length = (E k0).lds.length)
    (hS' : ∀ c, S' c → S c ∨ ∃ j, O k0 j c) (hO0 : ∀ j c, O0 j c → O k0 j c) (hSO : ∀ c j, S' c → ¬ O0 j c)
    (hOn : ∀ j c, O0 j c → ∃ ds id cid, lds'[j]? = some (.own ds id cid))
    (hleaf : ∀ (j : Nat) old new τ v x, (E k0).lds[j]? = some old → lds'[j]? = some new → ((E k0).k.lv Γ.tt)[j]? = some τ → (V k0)[j]? = some v → (ρ k0)[j]? = some x →
      RLOK Γ (XS S E O B) w (fun c => (∃ j, O k0 j c) ∧ ¬ S' c ∧ ∀ j, ¬ O0 j c) τ old new v x (O k0 j) (O0 j)) :
    InvG Γ S' (upd E k0 ⟨(E k0).ver, (E k0).k.setLds lds'⟩) ρ a w V (upd O k0 O0) B := by
  let N : BSet := fun c => (∃ j, O k0 j c) ∧ ¬ S' c ∧ ∀ j, ¬ O0 j c
  let e' : Ent := ⟨(E k0).ver, (E k0).k.setLds lds'⟩
  have sl := h.slot k0
  have hlds : e'.lds = lds' := EK.setLds_lds lds' hh
  have hlv : e'.k.lv Γ.tt = (E k0).k.lv Γ.tt := EK.setLds_lv lds' Γ.tt
  have e1 := sl.lenT hh; have e2 := sl.lenV hh; have e3 := sl.lenR hh
  have look : ∀ (j : Nat) new, lds'[j]? = some new → ∃ old τ v x, (E k0).lds[j]? = some old ∧ ((E k0).k.lv Γ.tt)[j]? = some τ ∧ (V k0)[j]? = some v ∧ (ρ k0)[j]? = some x ∧
      RLOK Γ (XS S E O B) w N τ old new v x (O k0 j) (O0 j) := by
    intro j new hn
    have hj := (List.getElem?_eq_some_iff.1 hn).1
    exact ⟨(E k0).lds[j]'(by omega), ((E k0).k.lv Γ.tt)[j]'(by omega), (V k0)[j]'(by omega), (ρ k0)[j]'(by omega), by simp, by simp, by simp, by simp, hleaf j _ new _ _ _ (by simp) hn (by simp) (by simp) (by simp)⟩
  have hfit : ∀ j cid, e'.k.fits j cid → (E k0).k.fits j cid := by
    rintro j cid (⟨ds, id, hf⟩ | ⟨m, hf⟩)
    · rw [show e'.k.lds = lds' from hlds] at hf
      obtain ⟨old, τ, v, x, g1, _, _, _, g2⟩ := look j _ hf
      rcases g2 with ⟨rfl, _⟩ | ⟨ds0, rfl, _⟩
      · exact .inl ⟨_, _, g1⟩
      · exact .inl ⟨_, _, g1⟩
    · rw [show e'.k.lds = lds' from hlds] at hf
      obtain ⟨old, τ, v, x, g1, _, _, _, g2⟩ := look j _ hf
      rcases g2 with rfl | ⟨ds0, id, rfl, _⟩
      · exact .inr ⟨_, g1⟩
      · exact .inl ⟨_, _, g1⟩
  have hhead : ∀ j id, e'.k.heads j id → (E k0).k.heads j id := by
    rintro j id ⟨ds, cid, hf⟩
    rw [show e'.k.lds = lds' from hlds] at hf
    obtain ⟨old, τ, v, x, g1, _, _, _, g2⟩ := look j _ hf
    rcases g2 with ⟨rfl, _⟩ | ⟨ds0, rfl, _⟩
    · exact ⟨_, _, g1⟩
    · exact ⟨_, _, g1⟩
  have hB : ∀ id, e'.k.isBox id → (E k0).k.isBox id := fun id => (EK.setLds_box lds' id).1
  have mS' : ∀ c, S' c → Mine S E w O B k0 c := fun c hc => (hS' c hc).elim .inl fun h => .inr (.inl h)
  have mO : ∀ j c, O0 j c → Mine S E w O B k0 c := fun j c hc => .inr (.inl ⟨j, hO0 j c hc⟩)
  have mB : ∀ id, e'.k.isBox id → Mine S E w O B k0 (B k0) := fun id hb => .inr (.inr (.inl ⟨⟨id, hB id hb⟩, rfl⟩))
  have hsub : ∀ c, XS S' (upd E k0 e') (upd O k0 O0) (upd B k0 (B k0)) c → XS S E O B c := by
    intro c hx
    rcases XS_upd hx with h1 | ⟨j, h1⟩ | ⟨⟨id, h1⟩, h2⟩ | ⟨k, j, _, h1⟩ | ⟨k, id, _, h1, h2⟩
    · rcases hS' c h1 with h1 | ⟨j, h1⟩
      · exact .inl h1
      · exact .inr (.inl ⟨k0, j, h1⟩)
    · exact .inr (.inl ⟨k0, j, hO0 j c h1⟩)
    · exact .inr (.inr ⟨k0, id, hB id h1, h2⟩)
    · exact .inr (.inl ⟨k, j, h1⟩)
    · exact .inr (.inr ⟨k, id, h1, h2⟩)
  have hfp : ∀ m c, Γ.FP (XS S E O B) m c ∨ N c → Γ.FP (XS S' (upd E k0 e') (upd O k0 O0) (upd B k0 (B k0))) m c := by
    rintro m c (⟨h1, h2⟩ | ⟨⟨j, hn⟩, h3, h4⟩)
    · exact ⟨fun hx => h1 (hsub c hx), h2⟩
    · refine ⟨fun hx => ?_, .inl (sl.fresh j c hn)⟩
      rcases XS_upd hx with h5 | ⟨j', h5⟩ | ⟨⟨id, h5⟩, h6⟩ | ⟨k, j', h7, h5⟩ | ⟨k, id, h7, h5, h6⟩
      · exact h3 h5
      · exact h4 j' h5
      · exact h.bown k0 id k0 j (hB id h5) (h6 ▸ hn)
      · exact h7 (h.disj _ _ _ _ _ h5 hn).1
      · exact h.bown k id k0 j h5 (h6 ▸ hn)
  have main := h.write k0 (S' := S') (a' := a) (w' := w) e' (V k0) (ρ k0) O0 (B k0) (Nat.le_refl _) (fun j cid _ hf => ⟨hfit j cid hf, rfl, rfl, by rw [hlv]⟩) (fun j id _ hf => ⟨hhead j id hf, rfl, by rw [hlv]⟩)
    (fun id _ hb => ⟨hB id hb, rfl⟩) (fun _ _ => rfl) h.defers rfl rfl rfl rfl (Nat.le_refl _) (fun c o ho _ => ho) mS' mO mB
    (fun j j' c h1 h2 => (h.disj _ _ _ _ _ (hO0 j c h1) (hO0 j' c h2)).2) hSO
    (fun c id hs hb he => by
      rcases hS' c hs with h1 | ⟨j, h1⟩
      · exact h.sbox c k0 id h1 (hB id hb) he
      · exact h.bown k0 id k0 j (hB id hb) (he ▸ h1))
    (fun id j hb ho => h.bown k0 id k0 j (hB id hb) (hO0 j _ ho))
    (fun c hc => (hS' c hc).elim (h.sfr c) fun ⟨j, hj⟩ => .inl (sl.fresh j c hj)) ?_
  · rw [upd_self, upd_self, upd_self] at main
    exact main
  constructor
  · intro _; rw [upd_same, upd_same, hlds, hlen]; exact e2
  · intro _; rw [upd_same, upd_same, hlds, hlen]; exact e3
  · intro _; rw [upd_same, hlv, hlds, hlen]; exact e1
  · intro t ht
    have h0 := sl.tm t ht
    rw [upd_same, upd_same, upd_same]
    revert h0
    cases hk : (E k0).k with
    | val ts tup lds => simp only [e', hk, EK.setLds, TOK]; exact id
    | box ty i lds => simp only [e', hk, EK.setLds, TOK]; exact fun h => h
    | dead => simp [hk, EK.holds] at hh
    | bp _ _ _ => simp [hk, EK.holds] at hh
    | ep _ _ _ _ _ => simp [hk, EK.holds] at hh
    | pep _ _ _ => simp [hk, EK.holds] at hh
  · intro ty id lds hk
    rw [upd_same] at hk
    rw [upd_same, upd_same]
    cases hk0 : (E k0).k with
    | box ty0 id0 lds0 =>
      simp only [e', hk0, EK.setLds, EK.box.injEq] at hk
      obtain ⟨rfl, rfl, rfl⟩ := hk
      exact sl.bx _ _ _ hk0
    | val ts tup lds => simp [e', hk0, EK.setLds] at hk
    | dead => simp [hk0, EK.holds] at hh
    | bp _ _ _ => simp [hk0, EK.holds] at hh
    | ep _ _ _ _ _ => simp [hk0, EK.holds] at hh
    | pep _ _ _ => simp [hk0, EK.holds] at hh
  · intro j new τ v x h1 h2 h3 h4
    rw [upd_same, hlds] at h1
    rw [upd_same, hlv] at h2
    rw [upd_same] at h3 h4
    rw [upd_same]
    obtain ⟨old, τ', v', x', g1, g2, g3, g4, g5⟩ := look j new h1
    rw [h2] at g2; rw [h3] at g3; rw [h4] at g4
    cases g2; cases g3; cases g4
    have hold := sl.leaf j old τ v x g1 h2 h3 h4
    have keepR : ∀ m, Rd Γ.tl w (Γ.FP (XS S E O B) m) τ v x → Rd Γ.tl w (Γ.FP (XS S' (upd E k0 e') (upd O k0 O0) (upd B k0 (B k0))) m) τ v x := fun m hr =>
      hr.mono fun b o hb ho => ⟨ho, hfp m b (.inl hb)⟩
    cases new with
    | dead => trivial
    | alias s j' cid =>
      have g5' : old = .alias s j' cid := g5
      subst g5'
      intro hf
      have hf' : (E s).k.fits j' cid := by
        by_cases e : s = k0
        · subst e; rw [upd_same] at hf; exact hfit j' cid hf
        · rw [upd_ne _ _ e] at hf; exact hf
      have h9 := hold hf'
      rw [upd_self, upd_self]
      refine ⟨h9.1, h9.2.1, ?_⟩
      by_cases e : s = k0
      · subst e; rw [upd_same, hlv]; exact h9.2.2
      · rw [upd_ne _ _ e]; exact h9.2.2
    | pub m cid =>
      rcases g5 with rfl | ⟨ds, id, rfl, hu, hn⟩
      · exact keepR m hold
      · exact Own.read hold (Γ.grows _) (m := m) (by simpa [Dsc.under] using hu) (fun c hc => hfp m c (.inl hc)) (fun c hc => hfp m c (.inr (hn c hc)))
    | own ds' id cid =>
      rcases g5 with ⟨rfl, ho⟩ | ⟨ds, rfl, hf⟩
      · rw [ho]
        exact Own.mono hold (fun m b o hb ho => ⟨ho, hfp m b (.inl hb)⟩) fun b o _ ho => ho
      · exact hf _ (fun m c hc => hfp m c (.inl hc)) fun m c hc => hfp m c (.inr hc)
  · intro j c hc
    rw [upd_same] at hc
    rw [upd_same, hlds]
    exact hOn j c hc
  · intro j c hc
    rw [upd_same] at hc
    exact sl.fresh j c (hO0 j c hc)
  · intro j ds id cid hl
    rw [upd_same, hlds] at hl
    obtain ⟨old, _, _, _, g1, _, _, _, g5⟩ := look j _ hl
    rw [upd_same]
    rcases g5 with ⟨rfl, _⟩ | ⟨ds0, rfl, _⟩
    · exact sl.idO j _ _ _ g1
    · exact sl.idO j _ _ _ g1
  · intro j m cid hl
    rw [upd_same, hlds] at hl
    obtain ⟨old, _, _, _, g1, _, _, _, g5⟩ := look j _ hl
    rw [upd_same]
    rcases g5 with rfl | ⟨ds0, id, rfl, _⟩
    · exact sl.idP j _ _ g1
    · exact (sl.idO j _ _ _ g1).2
  · intro j s j' cid hl
    rw [upd_same, hlds] at hl
    obtain ⟨old, _, _, _, g1, _, _, _, g5⟩ := look j _ hl
    have g5' : old = .alias s j' cid := g5
    subst g5'
    have := sl.idA j s j' cid g1
    by_cases e : s = k0
    · subst e; rw [upd_same]; exact this
    · rw [upd_ne _ _ e]; exact this
  · intro ty id lds hk
    rw [upd_same] at hk ⊢
    cases hk0 : (E k0).k with
    | box ty0 id0 lds0 =>
      simp only [e', hk0, EK.setLds, EK.box.injEq] at hk
      obtain ⟨rfl, rfl, rfl⟩ := hk
      exact sl.idB _ _ _ hk0
    | val ts tup lds => simp [e', hk0, EK.setLds] at hk
    | dead => simp [hk0, EK.holds] at hh
    | bp _ _ _ => simp [hk0, EK.holds] at hh
    | ep _ _ _ _ _ => simp [hk0, EK.holds] at hh
    | pep _ _ _ => simp [hk0, EK.holds] at hh
  · intro k' id off hk
    rw [upd_same] at hk
    cases hk0 : (E k0).k with
    | bp _ _ _ => simp [hk0, EK.holds] at hh
    | _ => simp [e', hk0, EK.setLds] at hk
  · intro s j id e off hk
    rw [upd_same] at hk
    cases hk0 : (E k0).k with
    | ep _ _ _ _ _ => simp [hk0, EK.holds] at hh
    | _ => simp [e', hk0, EK.setLds] at hk
  · rw [upd_same]; exact sl.oc

end

end Go.Lgo

namespace Go.Lgo
open Go

section
variable {Γ : Ctx} {S S' X X' : BSet} {E E' : SS} {ρ ρ' : Nat → Row} {a a' : Act} {w w' : World} {V V' : Nat → List Value} {O O' : Nat → Nat → BSet} {B B' : Nat → Nat}

def SS.setLd (E : SS) (k j : Nat) (ld : LD) : SS := upd E k ⟨(E k).ver, (E k).k.setLds ((E k).lds.set j ld)⟩
def minus (O : Nat → Nat → BSet) (k j : Nat) : Nat → Nat → BSet := upd O k fun j' c => j' ≠ j ∧ O k j' c

theorem InvG.take (h : InvG Γ S E ρ a w V O B) {k j : Nat} {ds : List Dsc} {id cid : Nat} (hl : (E k).lds[j]? = some (.own ds id cid)) :
    InvG Γ (fun c => S c ∨ O k j c) (SS.setLd E k j .dead) ρ a w V (minus O k j) B := by
  have hj := (List.getElem?_eq_some_iff.1 hl).1
  refine h.relabel k _ _ (EK.holds_of_lt hj) (by simp) (fun c hc => hc.imp (fun h => h) fun hc => ⟨j, hc⟩) (fun j' c hc => hc.2) ?_ ?_ ?_
  · rintro c j' (hs | ho) ⟨hne, ho'⟩
    · exact h.sown c k j' hs ho'
    · exact hne (h.disj _ _ _ _ _ ho' ho).2
  · rintro j' c ⟨hne, ho⟩
    obtain ⟨ds', id', cid', hl'⟩ := (h.slot k).own j' c ho
    exact ⟨ds', id', cid', by rw [List.getElem?_set_ne (Ne.symm hne)]; exact hl'⟩
  · intro j' old new τ v x h1 h2 _ _ _
    by_cases e : j' = j
    · subst e
      rw [List.getElem?_set_self hj] at h2
      cases h2
      trivial
    · rw [List.getElem?_set_ne (Ne.symm e), h1] at h2
      cases h2
      cases old with
      | dead => trivial
      | alias s j'' cid => rfl
      | pub m cid => exact .inl rfl
      | own ds' id' cid' => exact .inl ⟨rfl, by funext c; simp [e]⟩

theorem InvG.publish (h : InvG Γ S E ρ a w V O B) {k j : Nat} {ds : List Dsc} {id cid m : Nat} (hl : (E k).lds[j]? = some (.own ds id cid)) (hu : Dsc.underAll m ds = true) :
    InvG Γ S (SS.setLd E k j (.pub m cid)) ρ a w V (minus O k j) B := by
  have hj := (List.getElem?_eq_some_iff.1 hl).1
  refine h.relabel k _ _ (EK.holds_of_lt hj) (by simp) (fun c hc => .inl hc) (fun j' c hc => hc.2) ?_ ?_ ?_
  · rintro c j' hs ⟨hne, ho'⟩
    exact h.sown c k j' hs ho'
  · rintro j' c ⟨hne, ho⟩
    obtain ⟨ds', id', cid', hl'⟩ := (h.slot k).own j' c ho
    exact ⟨ds', id', cid', by rw [List.getElem?_set_ne (Ne.symm hne)]; exact hl'⟩
  · intro j' old new τ v x h1 h2 _ _ _
    by_cases e : j' = j
    · subst e
      rw [List.getElem?_set_self hj] at h2
      cases h2
      rw [hl] at h1
      cases h1
      refine .inr ⟨ds, id, rfl, hu, fun c hc => ⟨⟨j', hc⟩, fun hs => h.sown c k j' hs hc, ?_⟩⟩
      rintro j'' ⟨hne, ho⟩
      exact hne (h.disj _ _ _ _ _ ho hc).2
    · rw [List.getElem?_set_ne (Ne.symm e), h1] at h2
      cases h2
      cases old with
      | dead => trivial
      | alias s j'' cid => rfl
      | pub m cid => exact .inl rfl
      | own ds' id' cid' => exact .inl ⟨rfl, by funext c; simp [e]⟩

theorem InvG.less' (h : InvG Γ S E ρ a w V O B) {k j : Nat} {ds ds' : List Dsc} {id cid : Nat} (hl : (E k).lds[j]? = some (.own ds id cid)) (hu : Dsc.leAll ds ds' = true) :
    ∃ O', InvG Γ S (SS.setLd E k j (.own ds' id cid)) ρ a w V O' B ∧ ∀ k' j' c, O' k' j' c → O k' j' c := by
  have hj := (List.getElem?_eq_some_iff.1 hl).1
  have hh := EK.holds_of_lt hj
  have sl := h.slot k
  have e1 := sl.lenT hh; have e2 := sl.lenV hh; have e3 := sl.lenR hh
  have hown : Own Γ.tl w (Γ.FP (XS S E O B)) (((E k).k.lv Γ.tt)[j]'(by omega)) (.own ds) ((V k)[j]'(by omega)) ((ρ k)[j]'(by omega)) (O k j) := sl.leaf j _ _ _ _ hl (by simp) (by simp) (by simp)
  obtain ⟨O', hO', hw⟩ := hown.weaken (Γ.grows _) (d' := .own ds') (by simpa [Dsc.le] using hu)
  refine ⟨_, h.relabel k ((E k).lds.set j (.own ds' id cid)) (fun j' => if j' = j then O' else O k j') hh (by simp) (fun c hc => .inl hc) ?_ ?_ ?_ ?_, ?_⟩
  · intro j' c hc
    by_cases e : j' = j
    · subst e; rw [if_pos rfl] at hc; exact hO' c hc
    · rw [if_neg e] at hc; exact hc
  · intro c j' hs hc
    by_cases e : j' = j
    · subst e; rw [if_pos rfl] at hc; exact h.sown c k _ hs (hO' c hc)
    · rw [if_neg e] at hc; exact h.sown c k _ hs hc
  · intro j' c hc
    by_cases e : j' = j
    · subst e; exact ⟨ds', id, cid, by rw [List.getElem?_set_self hj]⟩
    · rw [if_neg e] at hc
      obtain ⟨ds'', id', cid', hl'⟩ := sl.own j' c hc
      exact ⟨ds'', id', cid', by rw [List.getElem?_set_ne (Ne.symm e)]; exact hl'⟩
  · intro j' old new τ v x h1 h2 h3 h4 h5
    by_cases e : j' = j
    · subst e
      rw [List.getElem?_set_self hj] at h2
      cases h2
      rw [hl] at h1
      cases h1
      refine .inr ⟨ds, rfl, fun FP' hf hn => ?_⟩
      rw [if_pos rfl]
      have := hw FP' hf fun m c hc hc' => hn m c ⟨⟨j', hc⟩, fun hs => h.sown c k j' hs hc, fun j'' hj'' => ?_⟩
      · have t1 : τ = ((E k).k.lv Γ.tt)[j']'(by omega) := by rw [List.getElem?_eq_getElem (by omega)] at h3; exact (Option.some.inj h3).symm
        have t2 : v = (V k)[j']'(by omega) := by rw [List.getElem?_eq_getElem (by omega)] at h4; exact (Option.some.inj h4).symm
        have t3 : x = (ρ k)[j']'(by omega) := by rw [List.getElem?_eq_getElem (by omega)] at h5; exact (Option.some.inj h5).symm
        rw [t1, t2, t3]; exact this
      · by_cases e : j'' = j'
        · subst e; rw [if_pos rfl] at hj''; exact hc' hj''
        · rw [if_neg e] at hj''; exact e (h.disj _ _ _ _ _ hj'' hc).2
    · rw [List.getElem?_set_ne (Ne.symm e), h1] at h2
      cases h2
      cases old with
      | dead => trivial
      | alias s j'' cid => rfl
      | pub m cid => exact .inl rfl
      | own ds' id' cid' => exact .inl ⟨rfl, by rw [if_neg e]⟩
  · intro k' j' c hc
    by_cases ek : k' = k
    · subst ek
      rw [upd_same] at hc
      by_cases e : j' = j
      · subst e; rw [if_pos rfl] at hc; exact hO' c hc
      · rw [if_neg e] at hc; exact hc
    · rw [upd_ne _ _ ek] at hc; exact hc
theorem InvG.less (h : InvG Γ S E ρ a w V O B) {k j : Nat} {ds ds' : List Dsc} {id cid : Nat} (hl : (E k).lds[j]? = some (.own ds id cid)) (hu : Dsc.leAll ds ds' = true) :
    ∃ O', InvG Γ S (SS.setLd E k j (.own ds' id cid)) ρ a w V O' B := by
  obtain ⟨O', h1, _⟩ := h.less' hl hu
  exact ⟨O', h1⟩

/-- A slot is forgotten. -/
theorem InvG.kill (h : InvG Γ S E ρ a w V O B) (k0 : Nat) : ∃ V' O' B', InvG Γ S (upd E k0 ⟨(E k0).ver, .dead⟩) ρ a w V' O' B' := by
  refine ⟨upd V k0 [], upd O k0 (fun _ _ => False), upd B k0 0, ?_⟩
  have main := h.write k0 (S' := S) (a' := a) (w' := w) ⟨(E k0).ver, .dead⟩ [] (ρ k0) (fun _ _ => False) 0 (Nat.le_refl _) (by rintro j cid _ (⟨_, _, hf⟩ | ⟨_, hf⟩) <;> simp [EK.lds] at hf) (by rintro j id _ ⟨_, _, hf⟩; simp [EK.lds] at hf)
    (by rintro id _ ⟨_, _, hf⟩; simp at hf) (fun _ _ => rfl) h.defers rfl rfl rfl rfl (Nat.le_refl _) (fun c o ho _ => ho) (fun c hc => .inl hc) (fun _ _ hf => hf.elim) (by rintro id ⟨_, _, hf⟩; simp at hf)
    (fun _ _ _ hf => hf.elim) (fun _ _ _ hf => hf.elim) (by rintro c id _ ⟨_, _, hf⟩; simp at hf) (by rintro id j ⟨_, _, hf⟩; simp at hf) h.sfr ?_
  · rw [upd_self] at main; exact main
  constructor <;> simp [upd_same, EK.holds, Ent.lds, EK.lds, TOK]

end

end Go.Lgo

namespace Go.Lgo
open Go

section
variable {Γ : Ctx} {S S' X X' : BSet} {E E' : SS} {ρ ρ' : Nat → Row} {a a' : Act} {w w' : World} {V V' : Nat → List Value} {O O' : Nat → Nat → BSet} {B B' : Nat → Nat}

theorem EK.fits_lt {e : EK} {j cid : Nat} (h : e.fits j cid) : e.holds = true := by
  rcases h with ⟨_, _, h⟩ | ⟨_, h⟩ <;> exact EK.holds_of_lt (List.getElem?_eq_some_iff.1 h).1
theorem EK.heads_lt {e : EK} {j cid : Nat} (h : e.heads j cid) : e.holds = true := by
  rcases h with ⟨_, _, h⟩; exact EK.holds_of_lt (List.getElem?_eq_some_iff.1 h).1
theorem EK.box_holds {e : EK} {id : Nat} (h : e.isBox id) : e.holds = true := by
  rcases h with ⟨_, _, rfl⟩; rfl
theorem EK.lds_nil {e : EK} (h : e.holds = false) : e.lds = [] := by cases e <;> simp_all [EK.holds, EK.lds]

/-- A temporary is set to a pointer (or forgotten): no leaf. -/
theorem InvG.setPtr (h : InvG Γ S E ρ a w V O B) (t : Nat) (e : EK) (r : Row) (v : Value) (he : e.holds = false) (ht : t < a.tmps.size)
    (hok : TOK Γ (XS S E O B) E r (some v) w V B [] e)
    (hk : ∀ k' id off, e = .bp k' id off → k' ≠ 2 * t ∧ id ≤ (E k').ver) (hep : ∀ s j id el off, e = .ep s j id el off → s ≠ 2 * t ∧ id ≤ (E s).ver) :
    InvG Γ S (upd E (2 * t) ⟨(E (2 * t)).ver + 1, e⟩) (upd ρ (2 * t) r) { a with tmps := a.tmps.setIfInBounds t v } w (upd V (2 * t) []) (upd O (2 * t) fun _ _ => False) (upd B (2 * t) 0) := by
  have nf : ∀ j cid, ¬ e.fits j cid := fun j cid hf => by have := EK.fits_lt hf; simp [he] at this
  have nh : ∀ j cid, ¬ e.heads j cid := fun j cid hf => by have := EK.heads_lt hf; simp [he] at this
  have nb : ∀ id, ¬ e.isBox id := fun id hf => by have := EK.box_holds hf; simp [he] at this
  have hl : e.lds = [] := EK.lds_nil he
  have hsub : ∀ c, XS S (upd E (2 * t) ⟨(E (2 * t)).ver + 1, e⟩) (upd O (2 * t) fun _ _ => False) (upd B (2 * t) 0) c → XS S E O B c := by
    intro c hx
    rcases XS_upd hx with h1 | ⟨j, h1⟩ | ⟨⟨id, h1⟩, h2⟩ | ⟨k, j, _, h1⟩ | ⟨k, id, _, h1, h2⟩
    · exact .inl h1
    · exact h1.elim
    · exact absurd h1 (nb id)
    · exact .inr (.inl ⟨k, j, h1⟩)
    · exact .inr (.inr ⟨k, id, h1, h2⟩)
  refine h.write (2 * t) ⟨(E (2 * t)).ver + 1, e⟩ [] r (fun _ _ => False) 0 (Nat.le_succ _) (fun j cid _ hf => absurd hf (nf j cid)) (fun j id _ hf => absurd hf (nh j id)) (fun id _ hb => absurd hb (nb id))
    (fun t' ht' => by simp [show t ≠ t' by omega]) h.defers (by simp) rfl rfl rfl (Nat.le_refl _) (fun c o ho _ => ho) (fun c hc => .inl hc) (fun _ _ hf => hf.elim) (fun id hb => absurd hb (nb id))
    (fun _ _ _ hf => hf.elim) (fun _ _ _ hf => hf.elim) (fun c id _ hb => absurd hb (nb id)) (fun id j hb => absurd hb (nb id)) h.sfr ?_
  constructor
  · simp [upd_same, he]
  · simp [upd_same, he]
  · simp [upd_same, he]
  · intro t' ht'
    have : t' = t := by omega
    subst this
    rw [upd_same, upd_same, upd_same]
    have hv : (a.tmps.setIfInBounds t' v)[t']? = some v := by simp [ht]
    show TOK Γ _ _ r (a.tmps.setIfInBounds t' v)[t']? w _ _ [] e
    rw [hv]
    revert hok
    cases e with
    | bp k' id off =>
      intro hok hb
      have h1 := (hk k' id off rfl).1
      rw [upd_ne _ _ h1] at hb
      rw [upd_ne _ _ h1]
      exact hok hb
    | ep s j id el off =>
      intro hok hb
      have h1 := (hep s j id el off rfl).1
      rw [upd_ne _ _ h1] at hb
      obtain ⟨b, len, cap, i, g1, g2, g3⟩ := hok hb
      exact ⟨b, len, cap, i, by rw [upd_ne _ _ h1]; exact g1, by rw [upd_ne _ _ h1]; exact g2, g3⟩
    | pep m el off =>
      rintro ⟨b, base, cs, e', fr, us, h1, h2, h3, h4, h5, h6, h7⟩
      exact ⟨b, base, cs, e', fr, us, h1, Ctx.FP_mono hsub h2, h3, h4, h5, h6, fun j τ v x a1 a2 a3 => (h7 j τ v x a1 a2 a3).mono fun c o hc ho => ⟨ho, Ctx.FP_mono hsub hc⟩⟩
    | dead => exact fun h => h
    | val _ _ _ => simp [EK.holds] at he
    | box _ _ _ => simp [EK.holds] at he
  · intro ty id lds hk'
    rw [upd_same] at hk'
    have hk'' : e = .box ty id lds := hk'
    simp [hk'', EK.holds] at he
  · intro j ld τ v x h1
    rw [upd_same] at h1
    simp [Ent.lds, hl] at h1
  · intro j c hc; simp [upd_same] at hc
  · intro j c hc; simp [upd_same] at hc
  · intro j ds id cid h1; rw [upd_same] at h1; simp [Ent.lds, hl] at h1
  · intro j m cid h1; rw [upd_same] at h1; simp [Ent.lds, hl] at h1
  · intro j s j' cid h1; rw [upd_same] at h1; simp [Ent.lds, hl] at h1
  · intro ty id lds hk'
    rw [upd_same] at hk'
    have hk'' : e = .box ty id lds := hk'
    simp [hk'', EK.holds] at he
  · intro k' id off hk'
    rw [upd_same] at hk'
    obtain ⟨h1, h2⟩ := hk k' id off hk'
    rw [upd_ne _ _ h1]; exact h2
  · intro s j id el off hk'
    rw [upd_same] at hk'
    obtain ⟨h1, h2⟩ := hep s j id el off hk'
    rw [upd_ne _ _ h1]; exact h2
  · intro v hv; simp [upd_same] at hv

/-- A box's leaves, some kept, some new. -/
def mixLd (v : Nat) (old : List LD) : List (Option NL) → List LD
  | [] => []
  | n :: ns => (match n with | some nl => nl.ld v | none => old.headD .dead) :: mixLd v old.tail ns
theorem mixLd_length (v : Nat) (old : List LD) (ns : List (Option NL)) : (mixLd v old ns).length = ns.length := by
  induction ns generalizing old with
  | nil => rfl
  | cons n ns ih => simp [mixLd, ih]
theorem mixLd_get (v : Nat) (old : List LD) (ns : List (Option NL)) (j : Nat) : (mixLd v old ns)[j]? = (ns[j]?).map fun n => match n with | some nl => nl.ld v | none => old.getD j .dead := by
  induction ns generalizing old j with
  | nil => simp [mixLd]
  | cons n ns ih =>
    cases j with
    | zero => cases n <;> cases old <;> simp [mixLd]
    | succ j => simp only [mixLd, List.getElem?_cons_succ, ih]; cases old <;> simp

/-- **A box is written** (or made: then no leaf is kept and bid is the new version). -/
theorem InvG.setBox (h : InvG Γ S E ρ a w V O B) (k0 : Nat) (hodd : ∀ t, k0 ≠ 2 * t) (ty : TypeId) (bid : Nat) (ns : List (Option NL)) (vs : List Value) (r : Row) (Os : Nat → BSet) (b : Nat)
    (hos : w'.os = w.os) (htape : w'.tape = w.tape) (hout : w'.output = w.output) (hsize : w.heap.size ≤ w'.heap.size)
    (hbid : (bid = (E k0).ver + 1 ∧ (S b ∨ w.heap.size ≤ b) ∧ ∀ j : Nat, ns[j]? ≠ some none) ∨ ((E k0).k.isBox bid ∧ b = B k0 ∧ (E k0).k.lv Γ.tt = (Γ.tt ty).lv))
    (hw : ∀ c o, w.heap[c]? = some o → ¬ Mine S E w O B k0 c → w'.heap[c]? = some o) (hwk : ∀ c o j, O k0 j c → ns[j]? = some none → w.heap[c]? = some o → w'.heap[c]? = some o)
    (hwb : w'.heap[b]? = some (.cells vs.toArray ty (0, 0))) (hbf : Γ.fresh b ∨ Γ.CB b)
    (hS' : ∀ c, S' c → S c ∨ w.heap.size ≤ c) (hO0 : ∀ j c, Os j c → (ns[j]? = some none ∧ O k0 j c) ∨ S c ∨ w.heap.size ≤ c)
    (hkeep : ∀ j : Nat, ns[j]? = some none → Os j = O k0 j ∧ vs[j]? = (V k0)[j]? ∧ r[j]? = (ρ k0)[j]? ∧ j < (E k0).lds.length)
    (hdis : ∀ j j' c, Os j c → Os j' c → j = j') (hSO : ∀ c j, S' c → ¬ Os j c) (hOf : ∀ j c, Os j c → Γ.fresh c) (hSf : ∀ c, S' c → Γ.fresh c ∨ Γ.CB c)
    (hSb : ¬ S' b) (hOb : ∀ j, ¬ Os j b)
    (hOn : ∀ (j : Nat) c, Os j c → ns[j]? = some none ∨ ∃ ds, ns[j]? = some (some (.own ds)))
    (hoc : ∀ v, v ∈ vs → v.oneCell' = true) (hv : vs.length = ns.length) (hr : r.length = ns.length) (hl : (Γ.tt ty).lv.length = ns.length)
    (hleaf : ∀ (j : Nat) nl τ v x, ns[j]? = some (some nl) → (Γ.tt ty).lv[j]? = some τ → vs[j]? = some v → r[j]? = some x → NLOK Γ (XS S E O B) E ρ w w' V (fun _ => False) k0 τ nl v x (Os j)) :
    InvG Γ S' (upd E k0 ⟨(E k0).ver + 1, .box ty bid (mixLd ((E k0).ver + 1) (E k0).lds ns)⟩) (upd ρ k0 r) a w' (upd V k0 vs) (upd O k0 Os) (upd B k0 b) := by
  let e' : Ent := ⟨(E k0).ver + 1, .box ty bid (mixLd ((E k0).ver + 1) (E k0).lds ns)⟩
  have sl := h.slot k0
  have hget : ∀ j : Nat, e'.lds[j]? = (ns[j]?).map fun n => match n with | some nl => nl.ld ((E k0).ver + 1) | none => (E k0).lds.getD j .dead := fun j => mixLd_get _ _ _ _
  have hold : ∀ j : Nat, ns[j]? = some none → e'.lds[j]? = (E k0).lds[j]? := by
    intro j hn
    have := (hkeep j hn).2.2.2
    rw [hget, hn]
    simp [List.getD_eq_getElem?_getD, List.getElem?_eq_getElem this]
  have hlvk : ∀ j : Nat, ns[j]? = some none → (E k0).k.lv Γ.tt = (Γ.tt ty).lv := by
    intro j hn
    rcases hbid with ⟨_, _, h3⟩ | ⟨_, _, h3⟩
    · exact absurd hn (h3 j)
    · exact h3
  have cases_ld : ∀ (j : Nat) ld, e'.lds[j]? = some ld → (ns[j]? = some none ∧ (E k0).lds[j]? = some ld) ∨ ∃ nl, ns[j]? = some (some nl) ∧ ld = nl.ld ((E k0).ver + 1) := by
    intro j ld hld
    have h1 := hget j
    rw [hld] at h1
    obtain ⟨n, hn, h2⟩ := Option.map_eq_some_iff.1 h1.symm
    cases n with
    | none => exact .inl ⟨hn, by rw [← hold j hn]; exact hld⟩
    | some nl => exact .inr ⟨nl, hn, h2.symm⟩
  have hfit : ∀ j cid, cid ≤ (E k0).ver → e'.k.fits j cid → ns[j]? = some none ∧ (E k0).k.fits j cid := by
    rintro j cid hc (⟨ds, id, hf⟩ | ⟨m, hf⟩)
    · rcases cases_ld j _ hf with ⟨hn, ho⟩ | ⟨nl, _, he⟩
      · exact ⟨hn, .inl ⟨_, _, ho⟩⟩
      · have := (NL.ld_own he.symm).2.2; omega
    · rcases cases_ld j _ hf with ⟨hn, ho⟩ | ⟨nl, _, he⟩
      · exact ⟨hn, .inr ⟨_, ho⟩⟩
      · have := (NL.ld_pub he.symm).2; omega
  have hhead : ∀ j id, id ≤ (E k0).ver → e'.k.heads j id → ns[j]? = some none ∧ (E k0).k.heads j id := by
    rintro j id hc ⟨ds, cid, hf⟩
    rcases cases_ld j _ hf with ⟨hn, ho⟩ | ⟨nl, _, he⟩
    · exact ⟨hn, ⟨_, _, ho⟩⟩
    · have := (NL.ld_own he.symm).2.1; omega
  have mS : ∀ c, S c ∨ w.heap.size ≤ c → Mine S E w O B k0 c := fun c hc => hc.elim .inl fun h => .inr (.inr (.inr h))
  have mO : ∀ j c, Os j c → Mine S E w O B k0 c := fun j c hc => (hO0 j c hc).elim (fun h => .inr (.inl ⟨j, h.2⟩)) (mS c)
  have isb : ∀ id, e'.k.isBox id → id = bid := by rintro id ⟨ty', lds', hh⟩; simp only [e', EK.box.injEq] at hh; exact hh.2.1.symm
  have mB : ∀ id, e'.k.isBox id → Mine S E w O B k0 b := by
    intro id _
    rcases hbid with ⟨_, h2, _⟩ | ⟨h1, h2, _⟩
    · exact mS b h2
    · exact .inr (.inr (.inl ⟨⟨bid, h1⟩, h2.symm⟩))
  have hfp : ∀ m c, (Γ.FP (XS S E O B) m c ∧ c < w.heap.size) ∨ False → Γ.FP (XS S' (upd E k0 e') (upd O k0 Os) (upd B k0 b)) m c := by
    rintro m c (⟨⟨h1, h2⟩, h3⟩ | hf)
    · refine ⟨fun hx => ?_, h2⟩
      rcases XS_back h (k0 := k0) (e' := e') (fun c hc => mS c (hS' c hc)) mO mB hx with hx | hx
      · exact h1 hx
      · omega
    · exact hf.elim
  refine h.write k0 e' vs r Os b (Nat.le_succ _) (fun j cid hc hf => ?_) (fun j id hc hf => ?_) (fun id hc hb => ?_) (fun t ht => rfl) h.defers rfl hos htape hout hsize hw (fun c hc => mS c (hS' c hc)) mO mB
    hdis hSO (fun c id hs _ he => hSb (he ▸ hs)) (fun id j _ => hOb j) hSf ?_
  · obtain ⟨g1, g2⟩ := hfit j cid hc hf
    obtain ⟨_, g3, g4, _⟩ := hkeep j g1
    exact ⟨g2, g3, g4, by rw [hlvk j g1]; rfl⟩
  · obtain ⟨g1, g2⟩ := hhead j id hc hf
    obtain ⟨_, g3, g4, _⟩ := hkeep j g1
    exact ⟨g2, g3, by rw [hlvk j g1]; rfl⟩
  · have := isb id hb
    subst this
    rcases hbid with ⟨g1, _, _⟩ | ⟨g1, g2, _⟩
    · omega
    · exact ⟨g1, g2⟩
  constructor
  · intro _; rw [upd_same, upd_same]; show vs.length = (mixLd _ _ _).length; rw [mixLd_length]; exact hv
  · intro _; rw [upd_same, upd_same]; show r.length = (mixLd _ _ _).length; rw [mixLd_length]; exact hr
  · intro _; rw [upd_same]; show (Γ.tt ty).lv.length = (mixLd _ _ _).length; rw [mixLd_length]; exact hl
  · intro t ht; exact absurd ht (hodd t)
  · intro ty' id' lds' hk
    rw [upd_same] at hk
    simp only [e', EK.box.injEq] at hk
    obtain ⟨rfl, rfl, rfl⟩ := hk
    rw [upd_same, upd_same]
    exact ⟨hwb, hbf⟩
  · intro j ld τ v x h1 h2 h3 h4
    rw [upd_same] at h1 h2 h3 h4
    rw [upd_same]
    rcases cases_ld j ld h1 with ⟨hn, ho⟩ | ⟨nl, hn, rfl⟩
    · obtain ⟨g1, g2, g3, g4⟩ := hkeep j hn
      rw [g2] at h3; rw [g3] at h4
      have h0 := sl.leaf j ld τ v x ho (by rw [hlvk j hn]; exact h2) h3 h4
      have nm : ∀ c, ¬ XS S E O B c → c < w.heap.size → ¬ Mine S E w O B k0 c := by
        rintro c hc hlt (hs | ⟨j', ho'⟩ | ⟨⟨id', hb'⟩, he⟩ | hge)
        · exact hc (.inl hs)
        · exact hc (.inr (.inl ⟨_, _, ho'⟩))
        · exact hc (.inr (.inr ⟨_, _, hb', he⟩))
        · omega
      have keepF : ∀ m c o, Γ.FP (XS S E O B) m c → w.heap[c]? = some o → w'.heap[c]? = some o ∧ Γ.FP (XS S' (upd E k0 e') (upd O k0 Os) (upd B k0 b)) m c := fun m c o hc ho =>
        have hlt := (Array.getElem?_eq_some_iff.1 ho).1
        ⟨hw c o ho (nm c hc.1 hlt), hfp m c (.inl ⟨hc, hlt⟩)⟩
      cases ld with
      | dead => trivial
      | own ds id cid =>
        show Own _ _ _ _ _ _ _ _
        rw [g1]
        exact Own.mono h0 (fun m c o hc ho => keepF m c o hc ho) fun c o hc ho => hwk c o j hc hn ho
      | pub m cid => exact Rd.mono h0 fun c o hc ho => keepF m c o hc ho
      | alias s j' cid =>
        intro hf
        by_cases e : s = k0
        · subst e
          rw [upd_same] at hf
          obtain ⟨f1, f2⟩ := hfit j' cid (sl.idA j _ j' cid ho) hf
          obtain ⟨_, f3, f4, _⟩ := hkeep j' f1
          obtain ⟨p1, p2, p3⟩ := h0 f2
          rw [upd_same, upd_same, upd_same]
          exact ⟨by rw [f3]; exact p1, by rw [f4]; exact p2, by rw [hlvk j' f1] at p3; exact p3⟩
        · rw [upd_ne _ _ e] at hf
          rw [upd_ne _ _ e, upd_ne _ _ e, upd_ne _ _ e]
          exact h0 hf
    · have h0 := hleaf j nl τ v x hn h2 h3 h4
      revert h0
      cases nl with
      | dead => exact fun _ => trivial
      | own ds => exact fun h0 => Own.mono h0 (fun m b o hb ho => ⟨ho, hfp m b hb⟩) fun b o _ ho => ho
      | pub m => exact fun h0 => Rd.mono h0 fun b o hb ho => ⟨ho, hfp m b hb⟩
      | alias s j' cid =>
        rintro ⟨g1, g2, g3⟩
        show (upd E k0 e' s).k.fits j' cid → _
        rw [upd_ne _ _ g1, upd_ne _ _ g1, upd_ne _ _ g1]
        exact g3
  · intro j c hc
    rw [upd_same] at hc ⊢
    rcases hOn j c hc with hn | ⟨ds, hn⟩
    · obtain ⟨g1, _, _, _⟩ := hkeep j hn
      rw [g1] at hc
      obtain ⟨ds, id, cid, hl⟩ := sl.own j c hc
      exact ⟨ds, id, cid, by rw [hold j hn]; exact hl⟩
    · exact ⟨ds, _, _, by rw [hget, hn]; rfl⟩
  · intro j c hc
    rw [upd_same] at hc
    exact hOf j c hc
  · intro j ds id cid hl
    rw [upd_same] at hl ⊢
    rcases cases_ld j _ hl with ⟨_, ho⟩ | ⟨nl, _, he⟩
    · exact ⟨Nat.le_succ_of_le (sl.idO j _ _ _ ho).1, Nat.le_succ_of_le (sl.idO j _ _ _ ho).2⟩
    · obtain ⟨_, rfl, rfl⟩ := NL.ld_own he.symm; exact ⟨Nat.le_refl _, Nat.le_refl _⟩
  · intro j m cid hl
    rw [upd_same] at hl ⊢
    rcases cases_ld j _ hl with ⟨_, ho⟩ | ⟨nl, _, he⟩
    · exact Nat.le_succ_of_le (sl.idP j _ _ ho)
    · obtain ⟨_, rfl⟩ := NL.ld_pub he.symm; exact Nat.le_refl _
  · intro j s j' cid hl
    rw [upd_same] at hl
    rcases cases_ld j _ hl with ⟨_, ho⟩ | ⟨nl, hn, he⟩
    · have := sl.idA j s j' cid ho
      by_cases e : s = k0
      · subst e; rw [upd_same]; exact Nat.le_succ_of_le this
      · rw [upd_ne _ _ e]; exact this
    · have h3 := NL.ld_alias he.symm
      subst h3
      have hjl : j < ns.length := (List.getElem?_eq_some_iff.1 hn).1
      obtain ⟨g1, g2, _⟩ := hleaf j _ ((Γ.tt ty).lv[j]'(by omega)) (vs[j]'(by omega)) (r[j]'(by omega)) hn (by simp) (by simp) (by simp)
      rw [upd_ne _ _ g1]
      exact g2
  · intro ty' id' lds' hk
    rw [upd_same] at hk ⊢
    simp only [e', EK.box.injEq] at hk
    obtain ⟨rfl, rfl, rfl⟩ := hk
    show bid ≤ (E k0).ver + 1
    rcases hbid with ⟨rfl, _, _⟩ | ⟨⟨ty1, lds1, hb⟩, _, _⟩
    · exact Nat.le_refl _
    · exact Nat.le_succ_of_le (sl.idB _ _ _ hb)
  · intro k' id off hk; simp [upd_same, e'] at hk
  · intro s j id e off hk; simp [upd_same, e'] at hk
  · rw [upd_same]; exact hoc

end

end Go.Lgo

namespace Go.Lgo
open Go

instance : Inhabited L := ⟨.i 0⟩

def L.int : L → Int
  | .i n => n
  | _ => 0
def L.bool : L → Bool
  | .b v => v
  | _ => false
def L.str : L → ByteArray
  | .s v => v
  | _ => ⟨#[]⟩
def L.list : L → List Row
  | .l xs => xs
  | _ => []

/-- A row's first leaf. -/
def hd (r : Row) : L := r.headD (.i 0)

def L.eqb : L → L → Bool
  | .i p, .i q => p == q
  | .b p, .b q => p == q
  | .s p, .s q => p.toList == q.toList
  | _, _ => false
def rowEqb : Row → Row → Bool
  | [], [] => true
  | a :: x, b :: y => a.eqb b && rowEqb x y
  | _, _ => false

def binI (o : BinOp) (k : IntKind) (a b : Int) : Option L :=
  match o with
  | .add => some (.i (k.wrap (a + b)))
  | .sub => some (.i (k.wrap (a - b)))
  | .mul => some (.i (k.wrap (a * b)))
  | .quo => if b = 0 then none else some (.i (k.wrap (a.tdiv b)))
  | .rem => if b = 0 then none else some (.i (a.tmod b))
  | .and => some (.i (k.wrap (BitVec.ofInt k.bits a &&& BitVec.ofInt k.bits b).toNat))
  | .or => some (.i (k.wrap (BitVec.ofInt k.bits a ||| BitVec.ofInt k.bits b).toNat))
  | .xor => some (.i (k.wrap (BitVec.ofInt k.bits a ^^^ BitVec.ofInt k.bits b).toNat))
  | .shl => if b < 0 then none else some (.i (k.wrap (a * 2 ^ (min b.toNat k.bits))))
  | .shr => if b < 0 then none else some (.i (a.fdiv (2 ^ (min b.toNat k.bits))))
  | .eql => some (.b (a == b))
  | .neq => some (.b (a != b))
  | .lss => some (.b (a < b))
  | .leq => some (.b (a ≤ b))
  | .gtr => some (.b (a > b))
  | .geq => some (.b (a ≥ b))
  | .andNot => none

/-- The order of strings. -/
def sLt (x y : ByteArray) : Bool := Op.bytesLess x.toList y.toList
def sMax : Nat := 9223372036854775807
def binS (o : BinOp) (x y : ByteArray) : Option L :=
  match o with
  | .add => if x.size + y.size ≤ sMax then some (.s (x ++ y)) else none
  | .eql => some (.b (x.toList == y.toList))
  | .neq => some (.b !(x.toList == y.toList))
  | .lss => some (.b (sLt x y))
  | .leq => some (.b (sLt x y || x.toList == y.toList))
  | .gtr => some (.b !(sLt x y || x.toList == y.toList))
  | .geq => some (.b !(sLt x y))
  | _ => none

/-- The most rows that an append or a make may come to. -/
def maxRows : Nat := 4294967296

inductive Prim where
  | id
  | put (off : Nat)
  | binI (o : BinOp) (k : IntKind)
  | binS (o : BinOp)
  | binB (o : BinOp)
  | eqR (neg : Bool)
  | not
  | neg (k : IntKind)
  | com (k : IntKind)
  | cvt (k : IntKind)
  | s2b
  | b2s
  | len
  | slen
  | sidx
  | row
  | chk
  | elem (j off n : Nat)
  | setel (j off : Nat)
  | app
  | mk
  | build (offs : List Nat)
  | slc (lo hi : Bool)
  | sslc (lo hi : Bool)
  deriving Inhabited

def bytesRows (s : ByteArray) : List Row := s.data.toList.map fun b => [.i b.toNat]
def rowsBytes (xs : List Row) : ByteArray := ⟨(xs.map fun r => UInt8.ofNat (hd r).int.toNat).toArray⟩

def splice (old new : Row) (off : Nat) : Row := old.take off ++ new ++ old.drop (off + new.length)

/-- Bounds of a cut: low and high, given or not. -/
def bounds (lo hi : Bool) (n : Nat) (as : List Row) : Option (Nat × Nat) :=
  let l : Int := if lo then (hd (as.getD 0 [])).int else 0
  let h : Int := if hi then (hd (as.getD (if lo then 1 else 0) [])).int else n
  if 0 ≤ l ∧ l ≤ h ∧ h ≤ n then some (l.toNat, h.toNat) else none

def Prim.run : Prim → List Row → Option Row
  | .id, [x] => some x
  | .put off, [old, new] => some (splice old new off)
  | .binI o k, [x, y] => (Lgo.binI o k (hd x).int (hd y).int).map fun l => [l]
  | .binS o, [x, y] => (Lgo.binS o (hd x).str (hd y).str).map fun l => [l]
  | .binB .eql, [x, y] => some [.b ((hd x).bool == (hd y).bool)]
  | .binB .neq, [x, y] => some [.b !((hd x).bool == (hd y).bool)]
  | .eqR ng, [x, y] => some [.b (if ng then !(rowEqb x y) else rowEqb x y)]
  | .not, [x] => some [.b (!(hd x).bool)]
  | .neg k, [x] => some [.i (k.wrap (0 - (hd x).int))]
  | .com k, [x] => some [.i (k.wrap (BitVec.ofInt k.bits (if k.signed then -1 else k.max) ^^^ BitVec.ofInt k.bits (hd x).int).toNat)]
  | .cvt k, [x] => some [.i (k.wrap (hd x).int)]
  | .s2b, [x] => if (hd x).str.size ≤ maxRows then some [.l (bytesRows (hd x).str)] else none
  | .b2s, [x] => some [.s (rowsBytes (hd x).list)]
  | .len, [x] => some [.i (hd x).list.length]
  | .slen, [x] => some [.i (hd x).str.size]
  | .sidx, [x, i] => if 0 ≤ (hd i).int then ((hd x).str.data.toList[(hd i).int.toNat]?).map fun b => [.i b.toNat] else none
  | .row, [x, i] => if 0 ≤ (hd i).int then (hd x).list[(hd i).int.toNat]? else none
  | .chk, [x, i] => if 0 ≤ (hd i).int ∧ (hd i).int < (hd x).list.length then some [.i (hd i).int] else none
  | .elem j off n, [x, i] => ((x.getD j (.l [])).list[(hd i).int.toNat]?).map fun r => (r.drop off).take n
  | .setel j off, [x, i, new] => ((x.getD j (.l [])).list[(hd i).int.toNat]?).map fun r => x.set j (.l ((x.getD j (.l [])).list.set (hd i).int.toNat (splice r new off)))
  | .app, [x, y] => if (hd x).list.length + (hd y).list.length ≤ maxRows then some [.l ((hd x).list ++ (hd y).list)] else none
  | .mk, xs => some [.l xs]
  | .build offs, z :: xs => some ((offs.zip xs).foldl (fun r p => splice r p.2 p.1) z)
  | .slc lo hi, x :: as => (bounds lo hi (hd x).list.length as).map fun p => [.l (((hd x).list.take p.2).drop p.1)]
  | .sslc lo hi, x :: as => (bounds lo hi (hd x).str.size as).map fun p => [.s ((hd x).str.extract p.1 p.2)]
  | _, _ => none

inductive Opd where
  | v (s off n : Nat)
  | k (r : Row)

def Opd.get (ρ : Nat → Row) : Opd → Row
  | .v s off n => ((ρ s).drop off).take n
  | .k r => r

inductive Cmd where
  | skip
  | op (d : Nat) (p : Prim) (xs : List Opd)
  | call (d : Nat) (f : Nat) (xs : List Opd) (cs : List Nat)
  | seq (a b : Cmd)
  | ite (c : Opd) (a b : Cmd)
  | sc (d : Nat) (c : Opd) (want : Bool) (body : Cmd) (res : Opd)
  | blk (id : Nat) (c : Cmd)
  | loop (c : Cmd)
  | exit (id : Nat)
  | ret

inductive Ex where
  | nrm
  | exit (id : Nat)
  | ret
  deriving DecidableEq

abbrev Env := Nat → Row
abbrev Fns := Nat → List Row → Option (Row × List Row)

def Env.sets (ρ : Env) : List Nat → List Row → Env
  | k :: ks, r :: rs => Env.sets (upd ρ k r) ks rs
  | _, _ => ρ

/-- Rounds. -/
def loopN (step : Env → Option (Ex × Env)) : Nat → Env → Option (Ex × Env)
  | 0, _ => none
  | k + 1, ρ => (step ρ).bind fun
    | (.nrm, ρ') => loopN step k ρ'
    | r => some r

/-- What a command computes; n: rounds. -/
def den (F : Fns) (n : Nat) : Cmd → Env → Option (Ex × Env)
  | .skip, ρ => some (.nrm, ρ)
  | .op d p xs, ρ => (p.run (xs.map (Opd.get ρ))).map fun r => (.nrm, upd ρ d r)
  | .call d f xs cs, ρ => (F f (xs.map (Opd.get ρ))).map fun r => (.nrm, Env.sets (upd ρ d r.1) cs r.2)
  | .seq a b, ρ => (den F n a ρ).bind fun
    | (.nrm, ρ') => den F n b ρ'
    | r => some r
  | .ite c a b, ρ => if (hd (c.get ρ)).bool then den F n a ρ else den F n b ρ
  | .sc d c want body res, ρ =>
    if (hd (c.get ρ)).bool = want then (den F n body ρ).bind fun
      | (.nrm, ρ') => some (.nrm, upd ρ d (res.get ρ'))
      | _ => none
    else some (.nrm, upd ρ d [.b (!want)])
  | .blk id c, ρ => (den F n c ρ).map fun
    | (.exit id', ρ') => if id' = id then (.nrm, ρ') else (.exit id', ρ')
    | r => r
  | .loop c, ρ => loopN (den F n c) n ρ
  | .exit id, ρ => some (.exit id, ρ)
  | .ret, ρ => some (.ret, ρ)

end Go.Lgo

namespace Go.Lgo
open Go

/-- A table by numbers, made for the kernel: a tree over a number's bits. -/
inductive Tr (α : Type) where
  | lf (l : List (Nat × α))
  | nd (v : α) (a b : Tr α)

def Tr.find {α : Type} (d : α) : List (Nat × α) → Nat → α
  | [], _ => d
  | p :: l, k => bif Nat.beq k p.1 then p.2 else Tr.find d l k
def Tr.lay {α : Type} : List (Nat × α) → Nat → α → List (Nat × α)
  | [], k, e => [(k, e)]
  | p :: l, k, e => bif Nat.beq k p.1 then (p.1, e) :: l else p :: Tr.lay l k e
def Tr.get {α : Type} (d : α) : Tr α → Nat → α
  | .lf l, k => Tr.find d l k
  | .nd v a b, k => bif Nat.beq k 0 then v else bif Nat.beq (k % 2) 1 then a.get d (k / 2) else b.get d (k / 2 - 1)
def Tr.put {α : Type} : Tr α → Nat → α → Tr α
  | .lf l, k, e => .lf (Tr.lay l k e)
  | .nd v a b, k, e => bif Nat.beq k 0 then .nd e a b else bif Nat.beq (k % 2) 1 then .nd v (a.put (k / 2) e) b else .nd v a (b.put (k / 2 - 1) e)

theorem beq_iff (a b : Nat) : Nat.beq a b = true ↔ a = b := ⟨Nat.eq_of_beq_eq_true, fun h => by subst h; exact Nat.beq_refl a⟩
theorem beq_false {a b : Nat} (h : a ≠ b) : Nat.beq a b = false := by
  cases hb : Nat.beq a b with
  | false => rfl
  | true => exact absurd ((beq_iff a b).1 hb) h
theorem Tr.find_lay {α : Type} (d : α) (l : List (Nat × α)) (k : Nat) (e : α) (k' : Nat) : Tr.find d (Tr.lay l k e) k' = if k' = k then e else Tr.find d l k' := by
  induction l with
  | nil =>
    by_cases h : k' = k
    · subst h; simp [Tr.lay, Tr.find]
    · simp [Tr.lay, Tr.find, beq_false h, h]
  | cons p l ih =>
    by_cases hp : k = p.1
    · subst hp
      by_cases h : k' = p.1
      · subst h; simp [Tr.lay, Tr.find]
      · simp [Tr.lay, Tr.find, beq_false h, h]
    · by_cases h : k' = p.1
      · subst h
        have : p.1 ≠ k := fun e => hp e.symm
        simp [Tr.lay, Tr.find, beq_false hp, this]
      · simp [Tr.lay, Tr.find, beq_false hp, beq_false h, ih]
theorem Tr.get_put {α : Type} (d : α) (t : Tr α) (k : Nat) (e : α) (k' : Nat) : (t.put k e).get d k' = if k' = k then e else t.get d k' := by
  induction t generalizing k k' with
  | lf l => exact Tr.find_lay d l k e k'
  | nd v a b iha ihb =>
    have key : ∀ n : Nat, n = 0 ∨ (n ≠ 0 ∧ n % 2 = 1) ∨ (n ≠ 0 ∧ n % 2 ≠ 1) := by intro n; omega
    rcases key k with rfl | ⟨h1, h2⟩ | ⟨h1, h2⟩
    · rcases key k' with rfl | ⟨g1, g2⟩ | ⟨g1, g2⟩
      · simp [Tr.put, Tr.get]
      · simp [Tr.put, Tr.get, beq_false g1, g1]
      · simp [Tr.put, Tr.get, beq_false g1, g1]
    · rcases key k' with rfl | ⟨g1, g2⟩ | ⟨g1, g2⟩
      · simp [Tr.put, Tr.get, beq_false h1, h2, Ne.symm h1]
      · simp only [Tr.put, Tr.get, beq_false h1, beq_false g1, h2, g2, Nat.beq_refl, cond_true, cond_false, iha]
        by_cases e : k' = k
        · subst e; simp
        · rw [if_neg e, if_neg (by omega)]
      · have : k' ≠ k := by intro e; subst e; exact g2 h2
        simp [Tr.put, Tr.get, beq_false h1, beq_false g1, h2, beq_false g2, this]
    · rcases key k' with rfl | ⟨g1, g2⟩ | ⟨g1, g2⟩
      · simp [Tr.put, Tr.get, beq_false h1, beq_false h2, Ne.symm h1]
      · have : k' ≠ k := by intro e; subst e; exact h2 g2
        simp [Tr.put, Tr.get, beq_false h1, beq_false g1, beq_false h2, g2, this]
      · simp only [Tr.put, Tr.get, beq_false h1, beq_false g1, beq_false h2, beq_false g2, cond_false, ihb]
        by_cases e : k' = k
        · subst e; simp
        · rw [if_neg e, if_neg (by omega)]

abbrev SE := Tr Ent
def SE.get (E : SE) : SS := fun k => Tr.get ⟨0, .dead⟩ E k
def SE.put (E : SE) (k : Nat) (e : Ent) : SE := Tr.put E k e

theorem SE.get_put (E : SE) (k : Nat) (e : Ent) : (SE.put E k e).get = upd E.get k e := by
  funext k'
  exact Tr.get_put _ E k e k'

/-- Scalars. -/
inductive Scl : Leaf → Value → L → Prop
  | int {k : IntKind} {n : Int} : Scl (.int k) (.int k n) (.i n)
  | bool {v : Bool} : Scl .bool (.bool v) (.b v)
  | str {v : ByteArray} : Scl .str (.string v) (.s v)

theorem Scl.oc {τ : Leaf} {v : Value} {l : L} (h : Scl τ v l) : v.oneCell' = true := by cases h <;> rfl
theorem Rd.oc {tl : TL} {w : World} {F : BSet} {τ : Leaf} {v : Value} {l : L} (h : Rd tl w F τ v l) : v.oneCell' = true := by cases h <;> rfl

def Leaf.scl : Leaf → Bool
  | .sl _ => false
  | _ => true

theorem Scl.rd {tl : TL} {w : World} {F : BSet} {τ : Leaf} {v : Value} {x : L} (h : Scl τ v x) : Rd tl w F τ v x := by
  cases h
  · exact .int
  · exact .bool
  · exact .str
theorem Rd.scl {tl : TL} {w : World} {F : BSet} {τ : Leaf} {v : Value} {x : L} (h : Rd tl w F τ v x) (hs : τ.scl = true) : Scl τ v x := by
  cases h
  · exact .int
  · exact .bool
  · exact .str
  · simp [Leaf.scl] at hs
  · simp [Leaf.scl] at hs

/-- The cells of a type that the checker knows. -/
def one (tt : TypeId → TI) (t : TypeId) : Option Leaf :=
  if (tt t).ok && !(tt t).agg then (match (tt t).lv with | [τ] => some τ | _ => none) else none
theorem one_spec {tt : TypeId → TI} {t : TypeId} {τ : Leaf} (h : one tt t = some τ) : (tt t).ok = true ∧ (tt t).agg = false ∧ (tt t).lv = [τ] := by
  unfold one at h
  split at h
  · rename_i hc
    simp only [Bool.and_eq_true, Bool.not_eq_true'] at hc
    split at h
    · rename_i τ' hl; cases h; exact ⟨hc.1, hc.2, hl⟩
    · cases h
  · cases h

/-- A scalar operand. -/
def sclOpd (tt : TypeId → TI) (E : SE) : Operand → Option (Leaf × Opd)
  | .tmp t => match (E.get (2 * t)).k with
    | .val [ty] false [.pub _ _] => match one tt ty with
      | some τ => if τ.scl then some (τ, .v (2 * t) 0 1) else none
      | none => none
    | _ => none
  | .const (.int k n) => some (.int k, .k [.i n])
  | .const (.bool b) => some (.bool, .k [.b b])
  | .const (.string s) => some (.str, .k [.s s])
  | _ => none

section
variable {Γ : Ctx} {S : BSet} {E : SE} {ρ : Env} {a : Act} {w w' : World} {V : Nat → List Value} {O : Nat → Nat → BSet} {B : Nat → Nat}

theorem InvG.val1 (h : InvG Γ S E.get ρ a w V O B) {t : Nat} {ty : TypeId} {lds : List LD} {τ : Leaf} (he : (E.get (2 * t)).k = .val [ty] false lds) (ho : one Γ.tt ty = some τ) :
    ∃ v x ld, lds = [ld] ∧ V (2 * t) = [v] ∧ ρ (2 * t) = [x] ∧ a.eval (.tmp t) = v ∧ LOK Γ (XS S E.get O B) E.get ρ w V τ ld v x (O (2 * t) 0) ∧ a.tmps[t]? = some v := by
  obtain ⟨_, h2, h3⟩ := one_spec ho
  have sl := h.slot (2 * t)
  have hh : (E.get (2 * t)).k.holds = true := by rw [he]; rfl
  have e1 := sl.lenT hh; have e2 := sl.lenV hh; have e3 := sl.lenR hh
  have hlv : (E.get (2 * t)).k.lv Γ.tt = [τ] := by rw [he]; simp [EK.lv, h3]
  have hlds : (E.get (2 * t)).lds = lds := by simp [Ent.lds, he, EK.lds]
  rw [hlv] at e1
  rw [hlds] at e1 e2 e3
  simp only [List.length_cons, List.length_nil, Nat.zero_add] at e1
  rw [← e1] at e2 e3
  obtain ⟨v, hv⟩ := List.length_eq_one_iff.1 e2
  obtain ⟨x, hx⟩ := List.length_eq_one_iff.1 e3
  obtain ⟨ld, hld⟩ := List.length_eq_one_iff.1 e1.symm
  have htm := sl.tm t rfl
  rw [he] at htm
  have htm' : a.tmps[t]? = some v := by
    have : a.tmps[t]? = some (packs Γ.tt [ty] false (V (2 * t))) := htm
    rw [this, hv]
    simp [packs, packL, pack1, h2, h3]
  refine ⟨v, x, ld, hld, hv, hx, ?_, sl.leaf 0 ld τ v x (by rw [hlds, hld]; rfl) (by rw [hlv]; rfl) (by rw [hv]; rfl) (by rw [hx]; rfl), htm'⟩
  simp only [Act.eval, Array.getD_eq_getD_getElem?, htm', Option.getD_some]

theorem sclOpd_ok (h : InvG Γ S E.get ρ a w V O B) {x : Operand} {τ : Leaf} {od : Opd} (hx : sclOpd Γ.tt E x = some (τ, od)) :
    ∃ v l, a.eval x = v ∧ od.get ρ = [l] ∧ Scl τ v l := by
  cases x with
  | tmp t =>
    simp only [sclOpd] at hx
    split at hx
    · rename_i ty m cid he
      split at hx
      · rename_i τ' ho
        split at hx
        · rename_i hs
          simp only [Option.some.injEq, Prod.mk.injEq] at hx
          obtain ⟨rfl, rfl⟩ := hx
          obtain ⟨v, l, ld, h1, h2, h3, h4, h5, _⟩ := h.val1 he ho
          cases h1
          exact ⟨v, l, h4, by simp [Opd.get, h3], Rd.scl h5 hs⟩
        · cases hx
      · cases hx
    · cases hx
  | const c =>
    cases c <;> simp only [sclOpd] at hx
    all_goals first | cases hx | skip
    · exact ⟨_, _, rfl, rfl, .bool⟩
    · exact ⟨_, _, rfl, rfl, .int⟩
    · exact ⟨_, _, rfl, rfl, .str⟩
  | global g => cases hx
  | func f => cases hx

/-- A temporary's state as a step leaves it. -/
def setVal (E : SE) (t : Nat) (ts : List TypeId) (tup : Bool) (nls : List NL) : SE :=
  E.put (2 * t) ⟨(E.get (2 * t)).ver + 1, .val ts tup (nls.map (NL.ld ((E.get (2 * t)).ver + 1)))⟩
def setPtr (E : SE) (t : Nat) (e : EK) : SE := E.put (2 * t) ⟨(E.get (2 * t)).ver + 1, e⟩

def none' : BSet := fun _ => False

/-- A step that reads alone. -/
theorem InvG.setRead (h : InvG Γ none' E.get ρ a w V O B) {t : Nat} (ht : t < Γ.N) (ts : List TypeId) (tup : Bool) (nls : List NL) (vs : List Value) (r : Row) (hoc : ∀ v, v ∈ vs → v.oneCell' = true)
    (hv : vs.length = nls.length) (hr : r.length = nls.length) (hl : (ts.flatMap fun t => (Γ.tt t).lv).length = nls.length)
    (_hno : ∀ (j : Nat) ds, nls[j]? ≠ some (.own ds))
    (hleaf : ∀ (j : Nat) nl τ v x, nls[j]? = some nl → (ts.flatMap fun t => (Γ.tt t).lv)[j]? = some τ → vs[j]? = some v → r[j]? = some x →
      match nl with
      | .own _ => False
      | .pub m => Rd Γ.tl w (Γ.FP (XS none' E.get O B) m) τ v x
      | .alias s j cid => s ≠ 2 * t ∧ cid ≤ (E.get s).ver ∧ ((E.get s).k.fits j cid → (V s)[j]? = some v ∧ (ρ s)[j]? = some x ∧ ((E.get s).k.lv Γ.tt)[j]? = some τ)
      | .dead => True) :
    ∃ V' O' B', InvG Γ none' (setVal E t ts tup nls).get (upd ρ (2 * t) r) { a with tmps := a.tmps.setIfInBounds t (packs Γ.tt ts tup vs) } w V' O' B' := by
  refine ⟨upd V (2 * t) vs, upd O (2 * t) fun _ _ => False, upd B (2 * t) 0, ?_⟩
  rw [setVal, SE.get_put]
  refine h.setTmp (w' := w) t ts tup nls vs r (fun _ _ => False) (fun _ => False) rfl rfl rfl (Nat.le_refl _) (fun c o ho _ => ho) (fun c hc => .inl hc) (fun _ _ hf => hf.elim) (fun _ hf => hf.elim)
    (fun _ _ _ hf => hf.elim) (fun _ _ _ hf => hf.elim) (fun _ _ hf => hf.elim) (fun _ hf => hf.elim) (fun _ _ hf => hf.elim) hoc (by rw [h.tsz]; exact ht) hv hr hl ?_
  intro j nl τ v x h1 h2 h3 h4
  have := hleaf j nl τ v x h1 h2 h3 h4
  cases nl with
  | own ds => exact this.elim
  | pub m => exact Rd.mono this fun b o hb ho => ⟨ho, .inl ⟨hb, (Array.getElem?_eq_some_iff.1 ho).1⟩⟩
  | alias s j cid => exact this
  | dead => trivial

/-- One scalar. -/
theorem InvG.setScl (h : InvG Γ none' E.get ρ a w V O B) {t : Nat} (ht : t < Γ.N) {ty : TypeId} {τ : Leaf} (ho : one Γ.tt ty = some τ) {v : Value} {l : L} (hs : Scl τ v l) :
    ∃ V' O' B', InvG Γ none' (setVal E t [ty] false [.pub 0]).get (upd ρ (2 * t) [l]) (a.put (some t) v) w V' O' B' := by
  obtain ⟨_, h2, h3⟩ := one_spec ho
  have := h.setRead ht [ty] false [.pub 0] [v] [l] (by simp [hs.oc]) rfl rfl (by simp [h3]) (by intro j ds; cases j <;> simp) (by
    intro j nl τ' v' x g1 g2 g3 g4
    cases j with
    | succ j => simp at g1
    | zero =>
      simp [h3] at g1 g2 g3 g4
      subst g1 g2 g3 g4
      exact hs.rd)
  simpa [packs, packL, pack1, h2, h3, Act.put] using this

end

end Go.Lgo

namespace Go.Lgo
open Go

def zeroV : Leaf → Value
  | .int k => .int k 0
  | .bool => .bool false
  | .str => .string ⟨#[]⟩
  | .sl _ => .slice none 0 0
def zeroL : Leaf → L
  | .int _ => .i 0
  | .bool => .b false
  | .str => .s ⟨#[]⟩
  | .sl _ => .l []

def leafIs (P : Program) (t : TypeId) : Leaf → Prop
  | .int k => P.underlying t = some (.int k)
  | .bool => P.underlying t = some .bool
  | .str => P.underlying t = some .string
  | .sl e => P.underlying t = some (.slice e)

/-- What the checker knows of a type is so. -/
structure TIOK (P : Program) (tt : TypeId → TI) (t : TypeId) : Prop where
  info : ∃ i z, P.info? t = some i ∧ i.size = (tt t).lv.length ∧ i.zero = some z ∧ z.cells.toList = (tt t).lv.map zeroV ∧ i.bytes ≤ 4096 ∧ (z = pack1 tt t ((tt t).lv.map zeroV)) ∧ 0 < (tt t).lv.length
  desc : if (tt t).agg then ∃ fs, P.underlying t = some (.struct fs) ∧ fs.toList.map (fun f => (f.offset, f.type)) = (tt t).flds else ∃ τ, (tt t).lv = [τ] ∧ leafIs P t τ
  fields : ∀ (n off : Nat) (ft : TypeId), (tt t).flds[n]? = some (off, ft) → (tt ft).ok = true ∧ ((tt t).lv.drop off).take (tt ft).lv.length = (tt ft).lv

def TTOK (P : Program) (tt : TypeId → TI) : Prop := ∀ t, (tt t).ok = true → TIOK P tt t

theorem TTOK.one {P : Program} {tt : TypeId → TI} (h : TTOK P tt) {t : TypeId} {τ : Leaf} (ho : one tt t = some τ) : leafIs P t τ := by
  obtain ⟨h1, h2, h3⟩ := one_spec ho
  have := (h t h1).desc
  rw [h2] at this
  simp only [Bool.false_eq_true, if_false] at this
  obtain ⟨τ', h4, h5⟩ := this
  rw [h3] at h4
  cases h4
  exact h5

def Inv' (Γ : Ctx) (E : SE) (ρ : Env) (a : Act) (w : World) : Prop := ∃ V O B, InvG Γ none' E.get ρ a w V O B

/-- An operation carries out: it yields a value, or nothing; what it leaves is told by the static state. -/
def Does (Γ : Ctx) (o : Oper) (a : Act) (w : World) (E' : SE) (ρ' : Env) : Prop :=
  (∃ v w', (execOp a.eval o).run Γ.P w = .ok (.value v) w' ∧ Inv' Γ E' ρ' (a.put o.dst v) w') ∨ ∃ w', (execOp a.eval o).run Γ.P w = .ok .skip w' ∧ Inv' Γ E' ρ' (a.put o.dst undef) w'

/-- The primitive of a binary operation, and its result's leaf. -/
def trBin (op : BinOp) : Leaf → Leaf → Option (Prim × Leaf)
  | .int k, .int k' =>
    match op with
    | .shl | .shr => some (.binI op k, .int k)
    | .add | .sub | .mul | .quo | .rem | .and | .or | .xor => if k = k' then some (.binI op k, .int k) else none
    | .eql | .neq | .lss | .leq | .gtr | .geq => if k = k' then some (.binI op k, .bool) else none
    | .andNot => none
  | .str, .str =>
    match op with
    | .add => some (.binS op, .str)
    | .eql | .neq | .lss | .leq | .gtr | .geq => some (.binS op, .bool)
    | _ => none
  | .bool, .bool => match op with
    | .eql | .neq => some (.binB op, .bool)
    | _ => none
  | _, _ => none

theorem run_bin {P : Program} {op : BinOp} {τx τy τr : Leaf} {p : Prim} (ht : trBin op τx τy = some (p, τr)) {v u : Value} {lx ly lr : L} (hx : Scl τx v lx) (hy : Scl τy u ly)
    {xT : TypeId} (hb : τx = .bool → P.underlying xT = some .bool) (hr : p.run [[lx], [ly]] = some [lr]) (w : World) : ∃ r, Scl τr r lr ∧ (binOp op xT v u).run P w = .ok r w := by
  cases hx with
  | @int k n =>
    cases hy with
    | @int k' m =>
      cases op <;> simp only [trBin, Option.some.injEq, Prod.mk.injEq, reduceCtorEq] at ht
      case shl =>
        obtain ⟨rfl, rfl⟩ := ht
        simp only [Prim.run, binI, hd, L.int, List.headD_cons] at hr
        by_cases hm : m < 0
        · simp [hm] at hr
        · simp only [hm, if_false, Option.map_some, Option.some.injEq, List.cons.injEq, and_true] at hr
          subst hr
          exact ⟨_, .int, by simp [binOp, Op.shift, hm]⟩
      case shr =>
        obtain ⟨rfl, rfl⟩ := ht
        simp only [Prim.run, binI, hd, L.int, List.headD_cons] at hr
        by_cases hm : m < 0
        · simp [hm] at hr
        · simp only [hm, if_false, Option.map_some, Option.some.injEq, List.cons.injEq, and_true] at hr
          subst hr
          exact ⟨_, .int, by simp [binOp, Op.shift, hm]⟩
      all_goals
        split at ht
        · rename_i hk
          subst hk
          simp only [Option.some.injEq, Prod.mk.injEq] at ht
          obtain ⟨rfl, rfl⟩ := ht
          simp only [Prim.run, binI, hd, L.int, List.headD_cons] at hr
          first
          | (simp only [Option.map_some, Option.some.injEq, List.cons.injEq, and_true] at hr; subst hr; exact ⟨_, .int, by simp [binOp, Op.intArith, Op.intBits]⟩)
          | (simp only [Option.map_some, Option.some.injEq, List.cons.injEq, and_true] at hr; subst hr; exact ⟨_, .bool, by first | (simp [binOp, Op.intCmp]; done) | (simp [binOp, Op.intCmp]; rfl)⟩)
          | (by_cases hm : m = 0
             · simp [hm] at hr
             · simp only [hm, if_false, Option.map_some, Option.some.injEq, List.cons.injEq, and_true] at hr
               subst hr
               exact ⟨_, .int, by simp [binOp, Op.intDiv, hm]⟩)
        · cases ht
    | bool => cases op <;> simp [trBin] at ht
    | str => cases op <;> simp [trBin] at ht
  | @bool v =>
    cases hy with
    | @bool u =>
      have hu := hb rfl
      cases op <;> simp only [trBin, Option.some.injEq, Prod.mk.injEq, reduceCtorEq] at ht
      case eql =>
        obtain ⟨rfl, rfl⟩ := ht
        simp only [Prim.run, hd, L.bool, List.headD_cons, Option.some.injEq, List.cons.injEq, and_true] at hr
        subst hr
        have he : (Op.equal xT (.bool v) (.bool u)).run P w = .ok (v == u) w := run_equalIn_bool w 9999 xT v u hu
        exact ⟨_, .bool, by simp only [binOp]; simp [he]⟩
      case neq =>
        obtain ⟨rfl, rfl⟩ := ht
        simp only [Prim.run, hd, L.bool, List.headD_cons, Option.some.injEq, List.cons.injEq, and_true] at hr
        subst hr
        have he : (Op.equal xT (.bool v) (.bool u)).run P w = .ok (v == u) w := run_equalIn_bool w 9999 xT v u hu
        exact ⟨_, .bool, by simp only [binOp]; simp [he]⟩
    | int => cases op <;> simp [trBin] at ht
    | str => cases op <;> simp [trBin] at ht
  | @str v =>
    cases hy with
    | @str u =>
      cases op <;> simp only [trBin, Option.some.injEq, Prod.mk.injEq, reduceCtorEq] at ht
      case add =>
        obtain ⟨rfl, rfl⟩ := ht
        simp only [Prim.run, binS, hd, L.str, List.headD_cons] at hr
        by_cases hm : v.size + u.size ≤ sMax
        · simp only [hm, if_true, Option.map_some, Option.some.injEq, List.cons.injEq, and_true] at hr
          subst hr
          refine ⟨_, .str, ?_⟩
          have : ¬ ((v.size + u.size : Nat) : Int) > IntKind.i64.max := by rw [IntKind.max_i64]; simp only [sMax] at hm; omega
          simp only [binOp, Op.stringOp, if_neg this]
          rfl
        · simp [hm] at hr
      all_goals
        obtain ⟨rfl, rfl⟩ := ht
        simp only [Prim.run, binS, hd, L.str, List.headD_cons, Option.map_some, Option.some.injEq, List.cons.injEq, and_true] at hr
        subst hr
        exact ⟨_, .bool, by simp [binOp, Op.stringOp, sLt]⟩
    | int => cases op <;> simp [trBin] at ht
    | bool => cases op <;> simp [trBin] at ht

end Go.Lgo

namespace Go.Lgo
open Go

section
variable {P : Program} {tt : TypeId → TI}

theorem pack1_agg {t : TypeId} {vs : List Value} (h : (tt t).agg = true) : pack1 tt t vs = .agg vs.toArray := by simp [pack1, h]
theorem pack1_one {t : TypeId} {v : Value} (h : (tt t).agg = false) : pack1 tt t [v] = v := by simp [pack1, h]

theorem run_isAgg (hT : TTOK P tt) {t : TypeId} (h : (tt t).ok = true) (w : World) : (isAgg t).run P w = .ok (tt t).agg w := by
  have hd := (hT t h).desc
  by_cases ha : (tt t).agg = true
  · rw [if_pos ha] at hd
    obtain ⟨fs, hf, _⟩ := hd
    simp [isAgg, run_underlying hf, ha]
  · simp only [Bool.not_eq_true] at ha
    rw [ha] at hd
    simp only [Bool.false_eq_true, if_false] at hd
    obtain ⟨τ, _, hl⟩ := hd
    cases τ <;> simp only [leafIs] at hl <;> simp [isAgg, run_underlying hl, ha]

theorem run_sizeOfT (hT : TTOK P tt) {t : TypeId} (h : (tt t).ok = true) (w : World) : (sizeOf t).run P w = .ok (tt t).lv.length w := by
  obtain ⟨i, z, h1, h2, _⟩ := (hT t h).info
  simp [sizeOf, typeInfo, h1, h2]

theorem run_zeroT (hT : TTOK P tt) {t : TypeId} (h : (tt t).ok = true) (w : World) : (zeroValue t).run P w = .ok (pack1 tt t ((tt t).lv.map zeroV)) w := by
  obtain ⟨i, z, h1, h2, h3, h4, h5, h6, _⟩ := (hT t h).info
  simp [zeroValue, typeInfo, h1, h3, h6]

theorem run_loadVarT (hT : TTOK P tt) {t : TypeId} (h : (tt t).ok = true) {w : World} {b off : Nat} {cs : Array Value} {e : TypeId} {fr : Nat × Nat} (hb : w.heap[b]? = some (.cells cs e fr)) {us : List Value}
    (hl : us.length = (tt t).lv.length) (hc : ∀ j : Nat, j < us.length → cs[off + j]? = us[j]?) : (loadVar t ⟨b, off, none⟩).run P w = .ok (pack1 tt t us) w := by
  have hcell : ∀ (j : Nat) v, us[j]? = some v → w.cell? ((⟨b, off, none⟩ : Addr).add j) = some v := by
    intro j v hv
    have hj := (List.getElem?_eq_some_iff.1 hv).1
    rw [Addr.add_lit]
    simp [World.cell?, hb, hc j hj, hv]
  have hlc := run_loadCells_list (P := P) w ⟨b, off, none⟩ us hcell
  unfold loadVar
  rw [Sem.run_bind, run_isAgg hT h]
  by_cases ha : (tt t).agg = true
  · simp only [ha, Result.andThen_ok, if_true, Sem.run_bind, run_sizeOfT hT h, ← hl, hlc, pack1]
    rfl
  · simp only [Bool.not_eq_true] at ha
    simp only [ha, Result.andThen_ok, Bool.false_eq_true, if_false]
    have hd := (hT t h).desc
    rw [ha] at hd
    simp only [Bool.false_eq_true, if_false] at hd
    obtain ⟨τ, h3, _⟩ := hd
    rw [h3] at hl
    obtain ⟨v, rfl⟩ := List.length_eq_one_iff.1 hl
    have h0 := hcell 0 v rfl
    rw [Addr.add_zero'] at h0
    rw [pack1_one ha]
    simp [load, Sem.run, h0]

theorem run_partT (hT : TTOK P tt) {t : TypeId} (h : (tt t).ok = true) {vs : List Value} {off : Nat} (hl : off + (tt t).lv.length ≤ vs.length) (w : World) :
    (part t vs.toArray off).run P w = .ok (pack1 tt t ((vs.drop off).take (tt t).lv.length)) w := by
  unfold part
  rw [Sem.run_bind, run_isAgg hT h]
  by_cases ha : (tt t).agg = true
  · simp only [ha, Result.andThen_ok, if_true, Sem.run_bind, run_sizeOfT hT h, pack1]
    simp [List.extract_toArray]
  · simp only [Bool.not_eq_true] at ha
    simp only [ha, Result.andThen_ok, Bool.false_eq_true, if_false]
    have hd := (hT t h).desc
    rw [ha] at hd
    simp only [Bool.false_eq_true, if_false] at hd
    obtain ⟨τ, h3, _⟩ := hd
    rw [h3] at hl ⊢
    simp only [List.length_cons, List.length_nil, Nat.zero_add] at hl ⊢
    have : (vs.drop off).take 1 = [vs[off]'(by omega)] := by
      rw [List.drop_eq_getElem_cons (by omega)]; rfl
    rw [this, pack1_one ha]
    simp [show off < vs.length by omega]

end

/-- How a leaf stands in a copy of it. t: the slot that the copy goes to. -/
def LD.cp (t s j : Nat) : LD → NL
  | .own _ _ cid => if s = t then .dead else .alias s j cid
  | .pub m _ => .pub m
  | .alias s' j' cid => if s' = t then .dead else .alias s' j' cid
  | .dead => .dead
def copyNL (t s : Nat) : Nat → List LD → List NL
  | _, [] => []
  | j, ld :: lds => ld.cp t s j :: copyNL t s (j + 1) lds
theorem copyNL_length (t s j : Nat) (lds : List LD) : (copyNL t s j lds).length = lds.length := by
  induction lds generalizing j with
  | nil => rfl
  | cons ld lds ih => simp [copyNL, ih]
theorem copyNL_get (t s j0 : Nat) (lds : List LD) (j : Nat) : (copyNL t s j0 lds)[j]? = (lds[j]?).map (LD.cp t s (j0 + j)) := by
  induction lds generalizing j0 j with
  | nil => simp [copyNL]
  | cons ld lds ih =>
    cases j with
    | zero => simp [copyNL]
    | succ j => simp only [copyNL, List.getElem?_cons_succ, ih]; rw [show j0 + 1 + j = j0 + (j + 1) by omega]

section
variable {Γ : Ctx} {S : BSet} {E : SE} {ρ : Env} {a : Act} {w w' : World} {V : Nat → List Value} {O : Nat → Nat → BSet} {B : Nat → Nat}

theorem InvG.lens (h : InvG Γ S E.get ρ a w V O B) {s : Nat} (hh : (E.get s).k.holds = true) : (V s).length = ((E.get s).k.lv Γ.tt).length ∧ (ρ s).length = ((E.get s).k.lv Γ.tt).length ∧ (E.get s).lds.length = ((E.get s).k.lv Γ.tt).length := by
  have sl := h.slot s
  rw [sl.lenT hh, sl.lenV hh, sl.lenR hh]
  exact ⟨rfl, rfl, rfl⟩

/-- **A part of a slot is copied into a temporary.** -/
theorem InvG.copy (h : InvG Γ none' E.get ρ a w V O B) {t s off : Nat} {ty : TypeId} (ht : t < Γ.N) (hh : (E.get s).k.holds = true)
    (hlv : (((E.get s).k.lv Γ.tt).drop off).take (Γ.tt ty).lv.length = (Γ.tt ty).lv) :
    Inv' Γ (setVal E t [ty] false (copyNL (2 * t) s off (((E.get s).lds.drop off).take (Γ.tt ty).lv.length))) (upd ρ (2 * t) (((ρ s).drop off).take (Γ.tt ty).lv.length))
      { a with tmps := a.tmps.setIfInBounds t (pack1 Γ.tt ty (((V s).drop off).take (Γ.tt ty).lv.length)) } w := by
  obtain ⟨e1, e2, e3⟩ := h.lens hh
  have hlen := congrArg List.length hlv
  simp only [List.length_take, List.length_drop] at hlen
  have sl := h.slot s
  have := h.setRead ht [ty] false (copyNL (2 * t) s off (((E.get s).lds.drop off).take (Γ.tt ty).lv.length)) (((V s).drop off).take (Γ.tt ty).lv.length) (((ρ s).drop off).take (Γ.tt ty).lv.length)
    (fun v hv => sl.oc v (List.mem_of_mem_drop (List.mem_of_mem_take hv)))
    (by simp only [copyNL_length, List.length_take, List.length_drop]; omega) (by simp only [copyNL_length, List.length_take, List.length_drop]; omega) (by simp only [copyNL_length, List.length_take, List.length_drop, List.flatMap_cons, List.flatMap_nil, List.append_nil]; omega)
    (by
      intro j ds hj
      rw [copyNL_get] at hj
      obtain ⟨ld, _, h2⟩ := Option.map_eq_some_iff.1 hj
      cases ld <;> simp only [LD.cp] at h2 <;> first | cases h2 | (split at h2 <;> cases h2))
    (by
      intro j nl τ v x g1 g2 g3 g4
      rw [copyNL_get] at g1
      obtain ⟨ld, g5, rfl⟩ := Option.map_eq_some_iff.1 g1
      have hj : j < (Γ.tt ty).lv.length := by
        have := (List.getElem?_eq_some_iff.1 g2).1
        simpa using this
      rw [List.getElem?_take, if_pos hj, List.getElem?_drop] at g5 g3 g4
      have g2' : ((E.get s).k.lv Γ.tt)[off + j]? = some τ := by
        have : (Γ.tt ty).lv[j]? = some τ := by simpa using g2
        rw [← hlv, List.getElem?_take, if_pos hj, List.getElem?_drop] at this
        exact this
      have h0 := sl.leaf (off + j) ld τ v x g5 g2' g3 g4
      cases ld with
      | dead => trivial
      | own ds id cid =>
        simp only [LD.cp]
        by_cases e : s = 2 * t
        · rw [if_pos e]; trivial
        · rw [if_neg e]
          exact ⟨e, (sl.idO _ _ _ _ g5).2, fun _ => ⟨g3, g4, g2'⟩⟩
      | pub m cid => exact h0
      | alias s' j' cid =>
        simp only [LD.cp]
        by_cases e : s' = 2 * t
        · rw [if_pos e]; trivial
        · rw [if_neg e]
          exact ⟨e, sl.idA _ _ _ _ g5, h0⟩)
  obtain ⟨V', O', B', hI⟩ := this
  refine ⟨V', O', B', ?_⟩
  have hp : packs Γ.tt [ty] false (((V s).drop off).take (Γ.tt ty).lv.length) = pack1 Γ.tt ty (((V s).drop off).take (Γ.tt ty).lv.length) := by
    simp only [packs, Bool.false_eq_true, if_false, packL, List.headD_cons]
    rw [List.take_of_length_le (by simp only [List.length_take, List.length_drop]; omega)]
  rw [hp] at hI
  exact hI

/-- The value in a temporary. -/
theorem InvG.tmpVal (h : InvG Γ S E.get ρ a w V O B) {t : Nat} {ty : TypeId} {lds : List LD} (he : (E.get (2 * t)).k = .val [ty] false lds) : a.tmps[t]? = some (pack1 Γ.tt ty (V (2 * t))) ∧ a.eval (.tmp t) = pack1 Γ.tt ty (V (2 * t)) := by
  have htm := (h.slot (2 * t)).tm t rfl
  rw [he] at htm
  have h1 : a.tmps[t]? = some (packs Γ.tt [ty] false (V (2 * t))) := htm
  have h2 := (h.lens (s := 2 * t) (by rw [he]; rfl)).1
  rw [he] at h2
  simp only [EK.lv, List.flatMap_cons, List.flatMap_nil, List.append_nil] at h2
  have hp : packs Γ.tt [ty] false (V (2 * t)) = pack1 Γ.tt ty (V (2 * t)) := by
    simp only [packs, Bool.false_eq_true, if_false, packL, List.headD_cons]
    rw [List.take_of_length_le (by omega)]
  rw [hp] at h1
  exact ⟨h1, by simp only [Act.eval, Array.getD_eq_getD_getElem?, h1, Option.getD_some]⟩

end

end Go.Lgo

namespace Go.Lgo
open Go

section
variable {Γ : Ctx} {S S' : BSet} {E : SS} {ρ : Env} {a : Act} {w w' : World} {V : Nat → List Value} {O : Nat → Nat → BSet} {B : Nat → Nat}

def SS.setLdN (E : SS) (k j : Nat) (nl : NL) : SS := upd E k ⟨(E k).ver + 1, (E k).k.setLds ((E k).lds.set j (nl.ld ((E k).ver + 1)))⟩

/-- A leaf that owned nothing is given what was reserved. -/
theorem InvG.give (h : InvG Γ S E ρ a w V O B) {k j : Nat} {ds : List Dsc} {O1 : BSet} {τ : Leaf} {v : Value} {x : L} (hj : j < (E k).lds.length) (hno : ∀ c, ¬ O k j c)
    (hτ : ((E k).k.lv Γ.tt)[j]? = some τ) (hv : (V k)[j]? = some v) (hx : (ρ k)[j]? = some x) (hO1 : ∀ c, O1 c → S c) (hf : ∀ c, O1 c → Γ.fresh c)
    (hown : Own Γ.tl w (Γ.FP (XS S E O B)) τ (.own ds) v x O1) :
    InvG Γ (fun c => S c ∧ ¬ O1 c) (SS.setLdN E k j (.own ds)) ρ a w V (upd O k fun j' => if j' = j then O1 else O k j') B := by
  have hh := EK.holds_of_lt hj
  have sl := h.slot k
  let lds' := (E k).lds.set j ((NL.own ds).ld ((E k).ver + 1))
  let e' : Ent := ⟨(E k).ver + 1, (E k).k.setLds lds'⟩
  have hlds : e'.lds = lds' := EK.setLds_lds lds' hh
  have hlv : e'.k.lv Γ.tt = (E k).k.lv Γ.tt := EK.setLds_lv lds' Γ.tt
  have hB : ∀ id, e'.k.isBox id → (E k).k.isBox id := fun id => (EK.setLds_box lds' id).1
  have look : ∀ (j' : Nat) ld, lds'[j']? = some ld → (j' = j ∧ ld = .own ds ((E k).ver + 1) ((E k).ver + 1)) ∨ (j' ≠ j ∧ (E k).lds[j']? = some ld) := by
    intro j' ld hl
    by_cases e : j' = j
    · subst e
      rw [List.getElem?_set_self hj] at hl
      cases hl
      exact .inl ⟨rfl, rfl⟩
    · rw [List.getElem?_set_ne (Ne.symm e)] at hl
      exact .inr ⟨e, hl⟩
  have hfit : ∀ j' cid, cid ≤ (E k).ver → e'.k.fits j' cid → (E k).k.fits j' cid := by
    rintro j' cid hc (⟨ds', id, hl⟩ | ⟨m, hl⟩)
    · rw [show e'.k.lds = lds' from hlds] at hl
      rcases look j' _ hl with ⟨_, h2⟩ | ⟨_, h2⟩
      · cases h2; omega
      · exact .inl ⟨_, _, h2⟩
    · rw [show e'.k.lds = lds' from hlds] at hl
      rcases look j' _ hl with ⟨_, h2⟩ | ⟨_, h2⟩
      · cases h2
      · exact .inr ⟨_, h2⟩
  have hhead : ∀ j' id, id ≤ (E k).ver → e'.k.heads j' id → (E k).k.heads j' id := by
    rintro j' id hc ⟨ds', cid, hl⟩
    rw [show e'.k.lds = lds' from hlds] at hl
    rcases look j' _ hl with ⟨_, h2⟩ | ⟨_, h2⟩
    · cases h2; omega
    · exact ⟨_, _, h2⟩
  have mO : ∀ j' c, (if j' = j then O1 else O k j') c → S c ∨ O k j' c := by
    intro j' c hc
    by_cases e : j' = j
    · rw [if_pos e] at hc; exact .inl (hO1 c hc)
    · rw [if_neg e] at hc; exact .inr hc
  have mM : ∀ j' c, (if j' = j then O1 else O k j') c → Mine S E w O B k c := fun j' c hc => (mO j' c hc).elim .inl fun h => .inr (.inl ⟨j', h⟩)
  have hsub : ∀ c, XS (fun c => S c ∧ ¬ O1 c) (upd E k e') (upd O k fun j' => if j' = j then O1 else O k j') (upd B k (B k)) c → XS S E O B c := by
    intro c hx
    rcases XS_upd hx with h1 | ⟨j', h1⟩ | ⟨⟨id, h1⟩, h2⟩ | ⟨k', j', _, h1⟩ | ⟨k', id, _, h1, h2⟩
    · exact .inl h1.1
    · rcases mO j' c h1 with h1 | h1
      · exact .inl h1
      · exact .inr (.inl ⟨k, j', h1⟩)
    · exact .inr (.inr ⟨k, id, hB id h1, h2⟩)
    · exact .inr (.inl ⟨k', j', h1⟩)
    · exact .inr (.inr ⟨k', id, h1, h2⟩)
  have main := h.write k (S' := fun c => S c ∧ ¬ O1 c) (a' := a) (w' := w) e' (V k) (ρ k) (fun j' => if j' = j then O1 else O k j') (B k) (Nat.le_succ _) (fun j' cid hc hf => ⟨hfit j' cid hc hf, rfl, rfl, by rw [hlv]⟩) (fun j' id hc hf => ⟨hhead j' id hc hf, rfl, by rw [hlv]⟩)
    (fun id _ hb => ⟨hB id hb, rfl⟩) (fun _ _ => rfl) h.defers rfl rfl rfl rfl (Nat.le_refl _) (fun c o ho _ => ho) (fun c hc => .inl hc.1) mM (fun id hb => .inr (.inr (.inl ⟨⟨id, hB id hb⟩, rfl⟩)))
    (by
      intro j1 j2 c h1 h2
      by_cases e1 : j1 = j
      · by_cases e2 : j2 = j
        · rw [e1, e2]
        · rw [if_pos e1] at h1; rw [if_neg e2] at h2
          exact absurd h2 (h.sown c k j2 (hO1 c h1))
      · by_cases e2 : j2 = j
        · rw [if_neg e1] at h1; rw [if_pos e2] at h2
          exact absurd h1 (h.sown c k j1 (hO1 c h2))
        · rw [if_neg e1] at h1; rw [if_neg e2] at h2
          exact (h.disj _ _ _ _ _ h1 h2).2)
    (by
      rintro c j' ⟨hs, hn⟩ hc
      by_cases e : j' = j
      · rw [if_pos e] at hc; exact hn hc
      · rw [if_neg e] at hc; exact h.sown c k j' hs hc)
    (fun c id hs hb he => h.sbox c k id hs.1 (hB id hb) he)
    (by
      intro id j' hb hc
      rcases mO j' _ hc with hc | hc
      · exact h.sbox _ k id hc (hB id hb) rfl
      · exact h.bown k id k j' (hB id hb) hc)
    (fun c hc => h.sfr c hc.1) ?_
  · rw [upd_self, upd_self, upd_self] at main
    exact main
  have hFP : ∀ m c, Γ.FP (XS S E O B) m c → Γ.FP (XS (fun c => S c ∧ ¬ O1 c) (upd E k e') (upd O k fun j' => if j' = j then O1 else O k j') (upd B k (B k))) m c := fun m c hc => Ctx.FP_mono hsub hc
  have ll : lds'.length = (E k).lds.length := by simp [lds']
  constructor
  · intro _; rw [upd_same, upd_same, hlds, ll]; exact sl.lenV hh
  · intro _; rw [upd_same, upd_same, hlds, ll]; exact sl.lenR hh
  · intro _; rw [upd_same, hlv, hlds, ll]; exact sl.lenT hh
  · intro t ht
    have h0 := sl.tm t ht
    rw [upd_same, upd_same, upd_same]
    revert h0
    cases hk : (E k).k with
    | val ts tup lds => simp only [e', hk, EK.setLds, TOK]; exact fun h => h
    | box ty i lds => simp only [e', hk, EK.setLds, TOK]; exact fun h => h
    | dead => simp [hk, EK.holds] at hh
    | bp _ _ _ => simp [hk, EK.holds] at hh
    | ep _ _ _ _ _ => simp [hk, EK.holds] at hh
    | pep _ _ _ => simp [hk, EK.holds] at hh
  · intro ty id lds hk
    rw [upd_same] at hk
    rw [upd_same, upd_same]
    cases hk0 : (E k).k with
    | box ty0 id0 lds0 =>
      simp only [e', hk0, EK.setLds, EK.box.injEq] at hk
      obtain ⟨rfl, rfl, rfl⟩ := hk
      exact sl.bx _ _ _ hk0
    | val ts tup lds => simp [e', hk0, EK.setLds] at hk
    | dead => simp [hk0, EK.holds] at hh
    | bp _ _ _ => simp [hk0, EK.holds] at hh
    | ep _ _ _ _ _ => simp [hk0, EK.holds] at hh
    | pep _ _ _ => simp [hk0, EK.holds] at hh
  · intro j' ld τ' v' x' h1 h2 h3 h4
    rw [upd_same, hlds] at h1
    rw [upd_same, hlv] at h2
    rw [upd_same] at h3 h4
    rw [upd_same]
    rcases look j' ld h1 with ⟨rfl, rfl⟩ | ⟨hne, ho⟩
    · rw [hτ] at h2; rw [hv] at h3; rw [hx] at h4
      cases h2; cases h3; cases h4
      show Own _ _ _ _ _ _ _ (if j' = j' then O1 else O k j')
      rw [if_pos rfl]
      exact hown.mono (fun m b o hb ho => ⟨ho, hFP m b hb⟩) fun b o _ ho => ho
    · have h0 := sl.leaf j' ld τ' v' x' ho h2 h3 h4
      revert h0
      cases ld with
      | dead => exact fun _ => trivial
      | own ds' id cid =>
        intro h0
        show Own _ _ _ _ _ _ _ (if j' = j then O1 else O k j')
        rw [if_neg hne]
        exact Own.mono h0 (fun m b o hb ho => ⟨ho, hFP m b hb⟩) fun b o _ ho => ho
      | pub m cid => exact fun h0 => Rd.mono h0 fun b o hb ho => ⟨ho, hFP m b hb⟩
      | alias s j'' cid =>
        intro h0 hfi
        rw [upd_self, upd_self]
        by_cases e : s = k
        · subst e
          rw [upd_same] at hfi ⊢
          rw [hlv]
          exact h0 (hfit j'' cid (sl.idA _ _ _ _ ho) hfi)
        · rw [upd_ne _ _ e] at hfi ⊢
          exact h0 hfi
  · intro j' c hc
    rw [upd_same] at hc
    rw [upd_same, hlds]
    by_cases e : j' = j
    · subst e; exact ⟨ds, _, _, List.getElem?_set_self hj⟩
    · rw [if_neg e] at hc
      obtain ⟨ds', id, cid, hl⟩ := sl.own j' c hc
      exact ⟨ds', id, cid, by rw [List.getElem?_set_ne (Ne.symm e)]; exact hl⟩
  · intro j' c hc
    rw [upd_same] at hc
    by_cases e : j' = j
    · rw [if_pos e] at hc; exact hf c hc
    · rw [if_neg e] at hc; exact sl.fresh j' c hc
  · intro j' ds' id cid hl
    rw [upd_same, hlds] at hl
    rw [upd_same]
    rcases look j' _ hl with ⟨_, h2⟩ | ⟨_, h2⟩
    · cases h2; exact ⟨Nat.le_refl _, Nat.le_refl _⟩
    · exact ⟨Nat.le_succ_of_le (sl.idO j' _ _ _ h2).1, Nat.le_succ_of_le (sl.idO j' _ _ _ h2).2⟩
  · intro j' m cid hl
    rw [upd_same, hlds] at hl
    rw [upd_same]
    rcases look j' _ hl with ⟨_, h2⟩ | ⟨_, h2⟩
    · cases h2
    · exact Nat.le_succ_of_le (sl.idP j' _ _ h2)
  · intro j' s j'' cid hl
    rw [upd_same, hlds] at hl
    rcases look j' _ hl with ⟨_, h2⟩ | ⟨_, h2⟩
    · cases h2
    · have := sl.idA j' s j'' cid h2
      by_cases e : s = k
      · subst e; rw [upd_same]; exact Nat.le_succ_of_le this
      · rw [upd_ne _ _ e]; exact this
  · intro ty id lds hk
    rw [upd_same] at hk ⊢
    cases hk0 : (E k).k with
    | box ty0 id0 lds0 =>
      simp only [e', hk0, EK.setLds, EK.box.injEq] at hk
      obtain ⟨rfl, rfl, rfl⟩ := hk
      exact Nat.le_succ_of_le (sl.idB _ _ _ hk0)
    | val ts tup lds => simp [e', hk0, EK.setLds] at hk
    | dead => simp [hk0, EK.holds] at hh
    | bp _ _ _ => simp [hk0, EK.holds] at hh
    | ep _ _ _ _ _ => simp [hk0, EK.holds] at hh
    | pep _ _ _ => simp [hk0, EK.holds] at hh
  · intro k' id off hk
    rw [upd_same] at hk
    cases hk0 : (E k).k with
    | bp _ _ _ => simp [hk0, EK.holds] at hh
    | _ => simp [e', hk0, EK.setLds] at hk
  · intro s j' id e off hk
    rw [upd_same] at hk
    cases hk0 : (E k).k with
    | ep _ _ _ _ _ => simp [hk0, EK.holds] at hh
    | _ => simp [e', hk0, EK.setLds] at hk
  · rw [upd_same]; exact sl.oc

theorem SS.setLd_other (E : SS) {k k' j : Nat} {ld : LD} (h : k' ≠ k) : SS.setLd E k j ld k' = E k' := upd_ne _ _ h
theorem XS_mono_take {k j : Nat} {c : Nat} (hh : (E k).k.holds = true) (hx : XS (fun c => S c ∨ O k j c) (SS.setLd E k j .dead) (minus O k j) B c) : XS S E O B c := by
  rcases hx with (h | h) | ⟨k', j', h⟩ | ⟨k', id, h, h'⟩
  · exact .inl h
  · exact .inr (.inl ⟨k, j, h⟩)
  · by_cases e : k' = k
    · subst e
      simp only [minus, upd_same] at h
      exact .inr (.inl ⟨_, j', h.2⟩)
    · simp only [minus, upd_ne _ _ e] at h
      exact .inr (.inl ⟨k', j', h⟩)
  · by_cases e : k' = k
    · subst e
      simp only [SS.setLd, upd_same] at h
      exact .inr (.inr ⟨_, id, (EK.setLds_box _ id).1 h, h'⟩)
    · simp only [SS.setLd, upd_ne _ _ e] at h
      exact .inr (.inr ⟨k', id, h, h'⟩)

/-- **Ownership goes to an alias.** -/
theorem InvG.xfer (h : InvG Γ S E ρ a w V O B) {s j t j' : Nat} {ds : List Dsc} {id cid : Nat} (hs : (E s).lds[j]? = some (.own ds id cid)) (ht : (E t).lds[j']? = some (.alias s j cid)) (hne : t ≠ s) :
    ∃ O', InvG Γ S (SS.setLdN (SS.setLd E s j .dead) t j' (.own ds)) ρ a w V O' B := by
  have hj := (List.getElem?_eq_some_iff.1 hs).1
  have hj' := (List.getElem?_eq_some_iff.1 ht).1
  have hhs := EK.holds_of_lt hj
  have hht := EK.holds_of_lt hj'
  have ss := h.slot s
  have st := h.slot t
  have e1 := ss.lenT hhs; have e2 := ss.lenV hhs; have e3 := ss.lenR hhs
  have f1 := st.lenT hht; have f2 := st.lenV hht; have f3 := st.lenR hht
  have hown : Own Γ.tl w (Γ.FP (XS S E O B)) (((E s).k.lv Γ.tt)[j]'(by omega)) (.own ds) ((V s)[j]'(by omega)) ((ρ s)[j]'(by omega)) (O s j) := ss.leaf j _ _ _ _ hs (by simp) (by simp) (by simp)
  have hal : (E s).k.fits j cid → (V s)[j]? = some ((V t)[j']'(by omega)) ∧ (ρ s)[j]? = some ((ρ t)[j']'(by omega)) ∧ ((E s).k.lv Γ.tt)[j]? = some (((E t).k.lv Γ.tt)[j']'(by omega)) :=
    st.leaf j' _ _ _ _ ht (by simp) (by simp) (by simp)
  obtain ⟨g1, g2, g3⟩ := hal (.inl ⟨ds, id, hs⟩)
  rw [List.getElem?_eq_getElem (by omega)] at g1 g2 g3
  have h1 := h.take hs
  have hE : SS.setLd E s j .dead t = E t := SS.setLd_other E hne
  have hOt : ∀ c, ¬ minus O s j t j' c := by
    intro c hc
    simp only [minus, upd_ne _ _ hne] at hc
    obtain ⟨ds', id', cid', hl⟩ := st.own j' c hc
    rw [ht] at hl; cases hl
  have h2 := h1.give (k := t) (j := j') (ds := ds) (O1 := O s j) (τ := ((E t).k.lv Γ.tt)[j']'(by omega)) (v := (V t)[j']'(by omega)) (x := (ρ t)[j']'(by omega)) (by rw [hE]; exact hj') hOt
    (by rw [hE]; simp) (by simp) (by simp) (fun c hc => .inr hc) (fun c hc => ss.fresh j c hc)
    (by
      rw [Option.some.inj g1, Option.some.inj g2, Option.some.inj g3] at hown
      exact hown.mono (fun m b o hb ho => ⟨ho, Ctx.FP_mono (fun c hc => XS_mono_take hhs hc) hb⟩) fun b o _ ho => ho)
  have hS : (fun c => (S c ∨ O s j c) ∧ ¬ O s j c) = S := by
    funext c
    apply propext
    constructor
    · rintro ⟨h1 | h1, h2⟩
      · exact h1
      · exact absurd h1 h2
    · exact fun hc => ⟨.inl hc, h.sown c s j hc⟩
  rw [hS] at h2
  exact ⟨_, h2⟩

end

end Go.Lgo

namespace Go.Lgo
open Go

/-- A leaf that is an alias of a temporary's owned leaf becomes the owner. -/
def xferIf (E : SE) (t j : Nat) : SE :=
  match (E.get t).lds[j]? with
  | some (.alias s j' cid) =>
    match (E.get s).lds[j']? with
    | some (.own ds _ cid') =>
      if cid = cid' ∧ t ≠ s ∧ s % 2 = 0 then
        let E1 := E.put s ⟨(E.get s).ver, (E.get s).k.setLds ((E.get s).lds.set j' .dead)⟩
        E1.put t ⟨(E1.get t).ver + 1, (E1.get t).k.setLds ((E1.get t).lds.set j ((NL.own ds).ld ((E1.get t).ver + 1)))⟩
      else E
    | _ => E
  | _ => E
def xferAll (E : SE) (t : Nat) : Nat → SE
  | 0 => E
  | n + 1 => xferIf (xferAll E t n) t n

section
variable {Γ : Ctx} {S : BSet} {E : SE} {ρ : Env} {a : Act} {w w' : World} {V : Nat → List Value} {O : Nat → Nat → BSet} {B : Nat → Nat}

theorem Inv'.xferIf (h : Inv' Γ E ρ a w) (t j : Nat) : Inv' Γ (xferIf E t j) ρ a w := by
  unfold Lgo.xferIf
  split
  · rename_i s j' cid ht
    split
    · rename_i ds id cid' hs
      split
      · rename_i hc
        obtain ⟨rfl, hne, _⟩ := hc
        obtain ⟨V, O, B, hI⟩ := h
        obtain ⟨O', h2⟩ := hI.xfer hs ht hne
        refine ⟨V, O', B, ?_⟩
        have e1 : (E.put s ⟨(E.get s).ver, (E.get s).k.setLds ((E.get s).lds.set j' .dead)⟩).get = SS.setLd E.get s j' .dead := SE.get_put _ _ _
        simp only []
        rw [SE.get_put, e1]
        exact h2
      · exact h
    · exact h
  · exact h
theorem Inv'.xferAll (h : Inv' Γ E ρ a w) (t n : Nat) : Inv' Γ (xferAll E t n) ρ a w := by
  induction n with
  | zero => exact h
  | succ n ih => exact ih.xferIf t n

theorem packL_get (tt : TypeId → TI) (ts : List TypeId) (vs : List Value) (i : Nat) (ty : TypeId) (h : ts[i]? = some ty) :
    (packL tt ts vs)[i]? = some (pack1 tt ty ((vs.drop ((ts.take i).flatMap fun t => (tt t).lv).length).take (tt ty).lv.length)) := by
  induction ts generalizing vs i with
  | nil => simp at h
  | cons t ts ih =>
    cases i with
    | zero => simp only [List.getElem?_cons_zero, Option.some.injEq] at h; subst h; simp [packL]
    | succ i =>
      simp only [List.getElem?_cons_succ] at h
      simp only [packL, List.getElem?_cons_succ, ih _ i h, List.take_succ_cons, List.flatMap_cons, List.length_append, List.drop_drop]

/-- A whole slot is copied (a tuple, too). -/
theorem InvG.copyAll (h : InvG Γ none' E.get ρ a w V O B) {t s : Nat} {ts : List TypeId} {tup : Bool} {lds : List LD} (ht : t < Γ.N) (he : (E.get s).k = .val ts tup lds) :
    Inv' Γ (setVal E t ts tup (copyNL (2 * t) s 0 lds)) (upd ρ (2 * t) (ρ s)) { a with tmps := a.tmps.setIfInBounds t (packs Γ.tt ts tup (V s)) } w := by
  have hh : (E.get s).k.holds = true := by rw [he]; rfl
  obtain ⟨e1, e2, e3⟩ := h.lens hh
  have hlds : (E.get s).lds = lds := by simp [Ent.lds, he, EK.lds]
  have hlv : (E.get s).k.lv Γ.tt = ts.flatMap fun t => (Γ.tt t).lv := by rw [he]; rfl
  rw [hlv] at e1 e2 e3
  rw [hlds] at e3
  have sl := h.slot s
  refine h.setRead ht ts tup (copyNL (2 * t) s 0 lds) (V s) (ρ s) sl.oc (by rw [copyNL_length]; omega) (by rw [copyNL_length]; omega) (by rw [copyNL_length]; omega) ?_ ?_
  · intro j ds hj
    rw [copyNL_get] at hj
    obtain ⟨ld, _, h2⟩ := Option.map_eq_some_iff.1 hj
    cases ld <;> simp only [LD.cp] at h2 <;> first | cases h2 | (split at h2 <;> cases h2)
  · intro j nl τ v x g1 g2 g3 g4
    rw [copyNL_get] at g1
    obtain ⟨ld, g5, rfl⟩ := Option.map_eq_some_iff.1 g1
    have h0 := sl.leaf j ld τ v x (by rw [hlds]; exact g5) (by rw [hlv]; exact g2) g3 g4
    cases ld with
    | dead => trivial
    | own ds id cid =>
      simp only [LD.cp, Nat.zero_add]
      by_cases e : s = 2 * t
      · rw [if_pos e]; trivial
      · rw [if_neg e]
        exact ⟨e, (sl.idO j _ _ _ (by rw [hlds]; exact g5)).2, fun _ => ⟨g3, g4, by rw [hlv]; exact g2⟩⟩
    | pub m cid => exact h0
    | alias s' j' cid =>
      simp only [LD.cp]
      by_cases e : s' = 2 * t
      · rw [if_pos e]; trivial
      · rw [if_neg e]
        exact ⟨e, sl.idA j _ _ _ (by rw [hlds]; exact g5), h0⟩

/-- Constants. -/
def fullDs (tt : TypeId → TI) : Nat → TypeId → List Dsc
  | 0, _ => []
  | n + 1, e => (tt e).lv.map fun
    | .sl e' => .own (fullDs tt n e')
    | _ => .pub 0
/-- A constant cell: its leaf, its datum, its state. -/
def cstCell (tt : TypeId → TI) : Leaf → Value → Option (L × NL)
  | .int k, .int k' n => if k = k' then some (.i n, .pub 0) else none
  | .bool, .bool b => some (.b b, .pub 0)
  | .str, .string s => some (.s s, .pub 0)
  | .sl e, .slice none 0 0 => some (.l [], .own (fullDs tt 8 e))
  | _, _ => none
def cstCells (tt : TypeId → TI) : List Leaf → List Value → Option (List L × List NL)
  | [], [] => some ([], [])
  | τ :: τs, v :: vs => match cstCell tt τ v, cstCells tt τs vs with
    | some (l, n), some (ls, ns) => some (l :: ls, n :: ns)
    | _, _ => none
  | _, _ => none

theorem cstCells_spec {tt : TypeId → TI} {τs : List Leaf} {vs : List Value} {ls : List L} {ns : List NL} (h : cstCells tt τs vs = some (ls, ns)) :
    vs.length = τs.length ∧ ls.length = τs.length ∧ ns.length = τs.length ∧ ∀ (j : Nat) τ v l n, τs[j]? = some τ → vs[j]? = some v → ls[j]? = some l → ns[j]? = some n → cstCell tt τ v = some (l, n) := by
  induction τs generalizing vs ls ns with
  | nil =>
    cases vs with
    | nil => simp [cstCells] at h; obtain ⟨rfl, rfl⟩ := h; simp
    | cons => simp [cstCells] at h
  | cons τ τs ih =>
    cases vs with
    | nil => simp [cstCells] at h
    | cons v vs =>
      simp only [cstCells] at h
      split at h
      · rename_i l n ls' ns' h1 h2
        simp only [Option.some.injEq, Prod.mk.injEq] at h
        obtain ⟨rfl, rfl⟩ := h
        obtain ⟨g1, g2, g3, g4⟩ := ih h2
        refine ⟨by simp [g1], by simp [g2], by simp [g3], ?_⟩
        intro j τ' v' l' n' k1 k2 k3 k4
        cases j with
        | zero => simp at k1 k2 k3 k4; subst k1 k2 k3 k4; exact h1
        | succ j => exact g4 j _ _ _ _ (by simpa using k1) (by simpa using k2) (by simpa using k3) (by simpa using k4)
      · cases h

theorem cstCell_ok {X : BSet} {E : SS} {N : BSet} {k0 : Nat} {τ : Leaf} {v : Value} {l : L} {n : NL} (h : cstCell Γ.tt τ v = some (l, n)) : NLOK Γ X E ρ w w' V N k0 τ n v l fun _ => False := by
  unfold cstCell at h
  split at h
  · split at h
    · rename_i hk; subst hk; cases h; exact .int
    · cases h
  · cases h; exact .bool
  · cases h; exact .str
  · cases h; exact Own.nil fun _ hf => hf
  · cases h

theorem cstCell_oc {tt : TypeId → TI} {τ : Leaf} {v : Value} {r : L × NL} (h : cstCell tt τ v = some r) : v.oneCell' = true := by
  unfold cstCell at h; split at h <;> first | rfl | cases h
theorem cstCells_oc {tt : TypeId → TI} {τs : List Leaf} {vs : List Value} {r : List L × List NL} (h : cstCells tt τs vs = some r) : ∀ v, v ∈ vs → v.oneCell' = true := by
  induction τs generalizing vs r with
  | nil => cases vs <;> simp_all [cstCells]
  | cons τ τs ih =>
    cases vs with
    | nil => simp [cstCells] at h
    | cons v vs =>
      simp only [cstCells] at h
      split at h
      · rename_i l n ls' ns' h1 h2
        intro u hu
        rcases List.mem_cons.1 hu with rfl | hu
        · exact cstCell_oc h1
        · exact ih h2 u hu
      · cases h

/-- A constant is set. -/
theorem InvG.setCst (h : InvG Γ none' E.get ρ a w V O B) {t : Nat} {ty : TypeId} {vs : List Value} {ls : List L} {ns : List NL} (ht : t < Γ.N) (hc : cstCells Γ.tt (Γ.tt ty).lv vs = some (ls, ns)) :
    Inv' Γ (setVal E t [ty] false ns) (upd ρ (2 * t) ls) { a with tmps := a.tmps.setIfInBounds t (pack1 Γ.tt ty vs) } w := by
  obtain ⟨g1, g2, g3, g4⟩ := cstCells_spec hc
  have hp : packs Γ.tt [ty] false vs = pack1 Γ.tt ty vs := by
    simp only [packs, Bool.false_eq_true, if_false, packL, List.headD_cons]
    rw [List.take_of_length_le (by omega)]
  rw [← hp]
  refine ⟨upd V (2 * t) vs, upd O (2 * t) fun _ _ => False, upd B (2 * t) 0, ?_⟩
  rw [setVal, SE.get_put]
  refine h.setTmp (w' := w) t [ty] false ns vs ls (fun _ _ => False) (fun _ => False) rfl rfl rfl (Nat.le_refl _) (fun c o ho _ => ho) (fun c hc => .inl hc) (fun _ _ hf => hf.elim) (fun _ hf => hf.elim)
    (fun _ _ _ hf => hf.elim) (fun _ _ _ hf => hf.elim) (fun _ _ hf => hf.elim) (fun _ hf => hf.elim) (fun _ _ hf => hf.elim) (cstCells_oc hc) (by rw [h.tsz]; exact ht) (by omega) (by omega) (by simp; omega) ?_
  intro j nl τ v x h1 h2 h3 h4
  exact cstCell_ok (g4 j τ v x nl (by simpa using h2) h3 h4 h1)

end

end Go.Lgo

namespace Go.Lgo
open Go

abbrev TR := Option (SE × Cmd)

/-- What a step's translation promises. -/
def Snd (Γ : Ctx) (E : SE) (o : Oper) (E' : SE) (c : Cmd) : Prop :=
  ∀ F n ρ ρ' a w, Inv' Γ E ρ a w → den F n c ρ = some (.nrm, ρ') → Does Γ o a w E' ρ'

theorem den_op {F : Fns} {n d : Nat} {p : Prim} {xs : List Opd} {ρ ρ' : Env} (h : den F n (.op d p xs) ρ = some (.nrm, ρ')) : ∃ r, p.run (xs.map (Opd.get ρ)) = some r ∧ ρ' = upd ρ d r := by
  simp only [den, Option.map_eq_some_iff, Prod.mk.injEq, true_and] at h
  obtain ⟨r, h1, h2⟩ := h
  exact ⟨r, h1, h2.symm⟩
theorem den_skip {F : Fns} {n : Nat} {ρ ρ' : Env} (h : den F n .skip ρ = some (.nrm, ρ')) : ρ' = ρ := by
  simp only [den, Option.some.injEq, Prod.mk.injEq, true_and] at h
  exact h.symm

def isAggV : Value → Bool
  | .agg _ => true
  | _ => false

def trCopy (tt : TypeId → TI) (N : Nat) (E : SE) (t : Nat) (ty : TypeId) (x : Operand) (asg : Bool) : TR :=
  if t < N then
    match x with
    | .tmp s =>
      match (E.get (2 * s)).k with
      | .val ts tup lds =>
        let E1 := setVal E t ts tup (copyNL (2 * t) (2 * s) 0 lds)
        some (if asg then xferAll E1 (2 * t) lds.length else E1, .op (2 * t) .id [.v (2 * s) 0 lds.length])
      | .bp k id off => if k ≠ 2 * t then some (setPtr E t (.bp k id off), .skip) else none
      | .ep s' j id e off => if s' ≠ 2 * t then some (setPtr E t (.ep s' j id e off), .op (2 * t) .id [.v (2 * s) 0 1]) else none
      | .pep m e off => some (setPtr E t (.pep m e off), .op (2 * t) .id [.v (2 * s) 0 (tt e).lv.length])
      | _ => none
    | .const v =>
      if (tt ty).ok && ((tt ty).agg == isAggV v) then
        match cstCells tt (tt ty).lv v.cells.toList with
        | some (ls, ns) => some (setVal E t [ty] false ns, .op (2 * t) .id [.k ls])
        | none => none
      else none
    | _ => none
  else none

section
variable {Γ : Ctx} {E : SE}

theorem InvG.evalVal {ρ : Env} {a : Act} {w : World} {V : Nat → List Value} {O : Nat → Nat → BSet} {B : Nat → Nat} {S : BSet} (h : InvG Γ S E.get ρ a w V O B) {s : Nat} {ts : List TypeId} {tup : Bool} {lds : List LD} (he : (E.get (2 * s)).k = .val ts tup lds) :
    a.eval (.tmp s) = packs Γ.tt ts tup (V (2 * s)) := by
  have htm := (h.slot (2 * s)).tm s rfl
  rw [he] at htm
  have h1 : a.tmps[s]? = some (packs Γ.tt ts tup (V (2 * s))) := htm
  simp only [Act.eval, Array.getD_eq_getD_getElem?, h1, Option.getD_some]

theorem InvG.rowLen {ρ : Env} {a : Act} {w : World} {V : Nat → List Value} {O : Nat → Nat → BSet} {B : Nat → Nat} {S : BSet} (h : InvG Γ S E.get ρ a w V O B) {s : Nat} (hh : (E.get s).k.holds = true) : (ρ s).length = (E.get s).lds.length :=
  (h.slot s).lenR hh

def EK.mayGo (k0 : Nat) : EK → Prop
  | .bp k _ _ => k ≠ k0
  | .ep s' _ _ _ _ => s' ≠ k0
  | .pep _ _ _ => True
  | _ => False
def EK.bears : EK → Bool
  | .ep _ _ _ _ _ => true
  | .pep _ _ _ => true
  | _ => false

/-- A pointer is copied. -/
theorem InvG.copyPtr {ρ : Env} {a : Act} {w : World} {V : Nat → List Value} {O : Nat → Nat → BSet} {B : Nat → Nat} (h : InvG Γ none' E.get ρ a w V O B) {t s : Nat} {e : EK} {r : Row} (ht : t < Γ.N) (he : (E.get (2 * s)).k = e)
    (hn : e.mayGo (2 * t)) (hr : e.bears = true → r = ρ (2 * s)) (hs : a.tmps[s]? = some (a.eval (.tmp s))) :
    Inv' Γ (Lgo.setPtr E t e) (upd ρ (2 * t) r) (a.put (some t) (a.eval (.tmp s))) w := by
  have sl := h.slot (2 * s)
  have htm := sl.tm s rfl
  rw [he, hs] at htm
  refine ⟨upd V (2 * t) [], upd O (2 * t) fun _ _ => False, upd B (2 * t) 0, ?_⟩
  rw [Lgo.setPtr, SE.get_put]
  refine h.setPtr t e r (a.eval (.tmp s)) (by cases e <;> first | rfl | exact hn.elim) (by rw [h.tsz]; exact ht) ?_ ?_ ?_
  · cases e with
    | bp k id off => exact htm
    | ep s' j id e off => rw [hr rfl]; exact htm
    | pep m e off => rw [hr rfl]; exact htm
    | dead => exact hn.elim
    | val _ _ _ => exact hn.elim
    | box _ _ _ => exact hn.elim
  · rintro k' id off rfl
    exact ⟨hn, sl.idK _ _ _ he⟩
  · rintro s' j id el off rfl
    exact ⟨hn, sl.idE _ _ _ _ _ he⟩

theorem trCopy_snd (o : Oper) {t : Nat} {x : Operand} (hd : o.dst = some t) (asg : Bool) (ho : (o.op = .move x) ∨ (o.op = .assign x)) {E' : SE} {c : Cmd} (htr : trCopy Γ.tt Γ.N E t o.type x asg = some (E', c)) : Snd Γ E o E' c := by
  intro F n ρ ρ' a w hinv hden
  have hrun : (execOp a.eval o).run Γ.P w = .ok (.value (a.eval x)) w := by
    rcases ho with ho | ho <;> simp [execOp, ho]
  refine .inl ⟨_, _, hrun, ?_⟩
  rw [hd]
  unfold trCopy at htr
  split at htr
  · rename_i ht
    split at htr
    · rename_i s
      split at htr
      · rename_i ts tup lds he
        cases htr
        obtain ⟨r, h1, rfl⟩ := den_op hden
        obtain ⟨V, O, B, hI⟩ := hinv
        have hh : (E.get (2 * s)).k.holds = true := by rw [he]; rfl
        have hl := hI.rowLen hh
        have hlds : (E.get (2 * s)).lds = lds := by simp [Ent.lds, he, EK.lds]
        rw [hlds] at hl
        have hr : r = ρ (2 * s) := by
          simp only [List.map_cons, List.map_nil, Opd.get, List.drop_zero, Prim.run, Option.some.injEq] at h1
          rw [← h1, List.take_of_length_le (by omega)]
        subst hr
        have hI2 := hI.copyAll (t := t) ht he
        rw [← hI.evalVal he] at hI2
        have hI3 : Inv' Γ (setVal E t ts tup (copyNL (2 * t) (2 * s) 0 lds)) (upd ρ (2 * t) (ρ (2 * s))) (a.put (some t) (a.eval (.tmp s))) w := hI2
        split
        · exact hI3.xferAll _ _
        · exact hI3
      · rename_i k id off he
        split at htr
        · rename_i hk
          cases htr
          have := den_skip hden
          subst this
          obtain ⟨V, O, B, hI⟩ := hinv
          by_cases hb : (E.get k).k.isBox id
          · have htm := (hI.slot (2 * s)).tm s rfl
            rw [he] at htm
            have h1 := htm hb
            have h2 : a.eval (.tmp s) = .pointer (some ⟨B k, off, none⟩) := by simp only [Act.eval, Array.getD_eq_getD_getElem?, h1, Option.getD_some]
            have := hI.copyPtr (t := t) (s := s) (r := ρ' (2 * t)) ht he hk (by intro h; cases h) (by rw [h1, h2])
            rw [upd_self] at this
            exact this
          · refine ⟨upd V (2 * t) [], upd O (2 * t) fun _ _ => False, upd B (2 * t) 0, ?_⟩
            have := hI.setPtr t (.bp k id off) (ρ' (2 * t)) (a.eval (.tmp s)) rfl (by rw [hI.tsz]; exact ht) (fun hb' => absurd hb' hb) (by rintro k' id' off' h; cases h; exact ⟨hk, (hI.slot (2 * s)).idK _ _ _ he⟩) (by rintro s j id e off h; cases h)
            rw [upd_self ρ'] at this
            rw [setPtr, SE.get_put]
            exact this
        · cases htr
      · rename_i s' j id e off he
        split at htr
        · rename_i hk
          cases htr
          obtain ⟨r, h1, rfl⟩ := den_op hden
          obtain ⟨V, O, B, hI⟩ := hinv
          by_cases hb : (E.get s').k.heads j id
          · have htm := (hI.slot (2 * s)).tm s rfl
            rw [he] at htm
            obtain ⟨b, len, cap, i, g1, g2, g3, g4, g5⟩ := htm hb
            have hr : r = ρ (2 * s) := by
              simp only [List.map_cons, List.map_nil, Opd.get, List.drop_zero, Prim.run, Option.some.injEq] at h1
              rw [← h1, g3]; rfl
            have h2 : a.eval (.tmp s) = .pointer (some ⟨b, i * (Γ.tl e).length + off, none⟩) := by simp only [Act.eval, Array.getD_eq_getD_getElem?, g5, Option.getD_some]
            exact hI.copyPtr (t := t) (s := s) (r := r) ht he hk (fun _ => hr) (by rw [g5, h2])
          · refine ⟨upd V (2 * t) [], upd O (2 * t) fun _ _ => False, upd B (2 * t) 0, ?_⟩
            rw [setPtr, SE.get_put]
            exact hI.setPtr t (.ep s' j id e off) r (a.eval (.tmp s)) rfl (by rw [hI.tsz]; exact ht) (fun hb' => absurd hb' hb) (by rintro k' id' off' h; cases h) (by rintro s1 j1 id1 e1 off1 h; cases h; exact ⟨hk, (hI.slot (2 * s)).idE _ _ _ _ _ he⟩)
        · cases htr
      · rename_i m e off he
        cases htr
        obtain ⟨r, h1, rfl⟩ := den_op hden
        obtain ⟨V, O, B, hI⟩ := hinv
        have htm := (hI.slot (2 * s)).tm s rfl
        rw [he] at htm
        obtain ⟨b, base, cs, e', fr, us, g1, g2, g3, g4, g5, g6⟩ := htm
        have hr : r = ρ (2 * s) := by
          simp only [List.map_cons, List.map_nil, Opd.get, List.drop_zero, Prim.run, Option.some.injEq] at h1
          rw [← h1]
          exact List.take_of_length_le (Nat.le_of_eq g5)
        have h2 : a.eval (.tmp s) = .pointer (some ⟨b, base + off, none⟩) := by simp only [Act.eval, Array.getD_eq_getD_getElem?, g3, Option.getD_some]
        exact hI.copyPtr (t := t) (s := s) (r := r) ht he trivial (fun _ => hr) (by rw [g3, h2])
      · cases htr
    · rename_i v
      split at htr
      · rename_i hc
        simp only [Bool.and_eq_true, beq_iff_eq] at hc
        split at htr
        · rename_i ls ns hcst
          cases htr
          obtain ⟨r, h1, rfl⟩ := den_op hden
          simp only [List.map_cons, List.map_nil, Opd.get, Prim.run, Option.some.injEq] at h1
          subst h1
          obtain ⟨V, O, B, hI⟩ := hinv
          have := hI.setCst ht hcst
          have hv : pack1 Γ.tt o.type v.cells.toList = v := by
            unfold pack1
            rw [hc.2]
            cases v <;> simp [isAggV, Value.cells]
          rw [hv] at this
          exact this
        · cases htr
      · cases htr
    · cases htr
  · cases htr

end

end Go.Lgo

namespace Go.Lgo
open Go

def liveLd (E : SE) : LD → Bool
  | .own _ _ _ => true
  | .pub _ _ => true
  | .alias s j cid => match (E.get s).lds[j]? with
    | some (.own _ _ cid') => cid == cid'
    | some (.pub _ cid') => cid == cid'
    | _ => false
  | .dead => false

theorem liveLd_fits {E : SE} {s j cid : Nat} (h : liveLd E (.alias s j cid) = true) : (E.get s).k.fits j cid := by
  simp only [liveLd] at h
  split at h
  · rename_i ds id cid' hl
    simp only [beq_iff_eq] at h; subst h
    exact .inl ⟨ds, id, hl⟩
  · rename_i m cid' hl
    simp only [beq_iff_eq] at h; subst h
    exact .inr ⟨m, hl⟩
  · cases h

mutual
def Dsc.mask : Dsc → Nat
  | .pub m => m
  | .own ds => Dsc.masks ds
def Dsc.masks : List Dsc → Nat
  | [] => 0
  | d :: ds => Dsc.mask d ||| Dsc.masks ds
end
theorem maskSub_or_left {m a b : Nat} (h : maskSub m a = true) : maskSub m (a ||| b) = true := by
  simp only [maskSub, beq_iff_eq] at *
  apply Nat.eq_of_testBit_eq
  intro i
  have := congrArg (fun x => Nat.testBit x i) h
  simp only [Nat.testBit_and, Nat.testBit_or] at *
  cases h1 : m.testBit i <;> simp_all
theorem maskSub_or_right {m a b : Nat} (h : maskSub m b = true) : maskSub m (a ||| b) = true := by rw [Nat.or_comm]; exact maskSub_or_left h
theorem Dsc.under_or (m k : Nat) : (∀ d : Dsc, d.under m = true → d.under (m ||| k) = true) ∧ ∀ ds : List Dsc, Dsc.underAll m ds = true → Dsc.underAll (m ||| k) ds = true := by
  constructor
  · intro d
    exact Dsc.rec (motive_1 := fun d => d.under m = true → d.under (m ||| k) = true) (motive_2 := fun ds => Dsc.underAll m ds = true → Dsc.underAll (m ||| k) ds = true)
      (fun m' h => by simp only [Dsc.under] at *; exact maskSub_or_left h) (fun ds ih h => by simp only [Dsc.under] at *; exact ih h) (fun _ => by simp [Dsc.underAll]) (fun d ds ih1 ih2 h => by simp only [Dsc.underAll, Bool.and_eq_true] at *; exact ⟨ih1 h.1, ih2 h.2⟩) d
  · intro ds
    exact Dsc.rec_1 (motive_1 := fun d => d.under m = true → d.under (m ||| k) = true) (motive_2 := fun ds => Dsc.underAll m ds = true → Dsc.underAll (m ||| k) ds = true)
      (fun m' h => by simp only [Dsc.under] at *; exact maskSub_or_left h) (fun ds ih h => by simp only [Dsc.under] at *; exact ih h) (fun _ => by simp [Dsc.underAll]) (fun d ds ih1 ih2 h => by simp only [Dsc.underAll, Bool.and_eq_true] at *; exact ⟨ih1 h.1, ih2 h.2⟩) ds
theorem Dsc.under_mask : (∀ d : Dsc, d.under d.mask = true) ∧ ∀ ds : List Dsc, Dsc.underAll (Dsc.masks ds) ds = true := by
  have hor : ∀ (a b : Nat) (d : Dsc), d.under b = true → d.under (a ||| b) = true := fun a b d h => by rw [Nat.or_comm]; exact (Dsc.under_or b a).1 d h
  have hora : ∀ (a b : Nat) (ds : List Dsc), Dsc.underAll b ds = true → Dsc.underAll (a ||| b) ds = true := fun a b d h => by rw [Nat.or_comm]; exact (Dsc.under_or b a).2 d h
  constructor
  · intro d
    exact Dsc.rec (motive_1 := fun d => d.under d.mask = true) (motive_2 := fun ds => Dsc.underAll (Dsc.masks ds) ds = true)
      (fun m' => by simp [Dsc.under, Dsc.mask, maskSub]) (fun ds ih => by simp only [Dsc.under, Dsc.mask]; exact ih) (by simp [Dsc.underAll]) (fun d ds ih1 ih2 => by simp only [Dsc.underAll, Dsc.masks, Bool.and_eq_true]; exact ⟨(Dsc.under_or _ _).1 d ih1, hora _ _ ds ih2⟩) d
  · intro ds
    exact Dsc.rec_1 (motive_1 := fun d => d.under d.mask = true) (motive_2 := fun ds => Dsc.underAll (Dsc.masks ds) ds = true)
      (fun m' => by simp [Dsc.under, Dsc.mask, maskSub]) (fun ds ih => by simp only [Dsc.under, Dsc.mask]; exact ih) (by simp [Dsc.underAll]) (fun d ds ih1 ih2 => by simp only [Dsc.underAll, Dsc.masks, Bool.and_eq_true]; exact ⟨(Dsc.under_or _ _).1 d ih1, hora _ _ ds ih2⟩) ds

theorem Own.readAny {tl : TL} {w : World} {FP : Nat → BSet} {τ : Leaf} {d : Dsc} {v : Value} {x : L} {O : BSet} (h : Own tl w FP τ d v x O) (hg : Grows FP) : Rd tl w (fun _ => True) τ v x :=
  h.read hg (Dsc.under_mask.1 d) (fun _ _ => trivial) fun _ _ => trivial

section
variable {Γ : Ctx} {S : BSet} {E : SE} {ρ : Env} {a : Act} {w : World} {V : Nat → List Value} {O : Nat → Nat → BSet} {B : Nat → Nat}

theorem InvG.live_read (h : InvG Γ S E.get ρ a w V O B) {k j : Nat} {ld : LD} {τ : Leaf} {v : Value} {x : L} (hl : (E.get k).lds[j]? = some ld) (hτ : ((E.get k).k.lv Γ.tt)[j]? = some τ) (hv : (V k)[j]? = some v) (hx : (ρ k)[j]? = some x)
    (hlive : liveLd E ld = true) : Rd Γ.tl w (fun _ => True) τ v x := by
  have base : ∀ (k j : Nat) ld τ v x, (E.get k).lds[j]? = some ld → ((E.get k).k.lv Γ.tt)[j]? = some τ → (V k)[j]? = some v → (ρ k)[j]? = some x → ((∃ ds id cid, ld = .own ds id cid) ∨ ∃ m cid, ld = .pub m cid) → Rd Γ.tl w (fun _ => True) τ v x := by
    rintro k j ld τ v x hl hτ hv hx (⟨ds, id, cid, rfl⟩ | ⟨m, cid, rfl⟩)
    · exact Own.readAny ((h.slot k).leaf j _ τ v x hl hτ hv hx) (Γ.grows _)
    · exact Rd.mono ((h.slot k).leaf j _ τ v x hl hτ hv hx) fun b o _ ho => ⟨ho, trivial⟩
  cases ld with
  | own ds id cid => exact base k j _ τ v x hl hτ hv hx (.inl ⟨_, _, _, rfl⟩)
  | pub m cid => exact base k j _ τ v x hl hτ hv hx (.inr ⟨_, _, rfl⟩)
  | dead => simp [liveLd] at hlive
  | alias s j' cid =>
    have hf := liveLd_fits hlive
    obtain ⟨g1, g2, g3⟩ := (h.slot k).leaf j _ τ v x hl hτ hv hx hf
    rcases hf with ⟨ds, id, hl'⟩ | ⟨m, hl'⟩
    · exact base s j' _ τ v x hl' g3 g1 g2 (.inl ⟨_, _, _, rfl⟩)
    · exact base s j' _ τ v x hl' g3 g1 g2 (.inr ⟨_, _, rfl⟩)

end

/-- A slice operand that can be read: its element type. -/
def slcOpd (tt : TypeId → TI) (E : SE) : Operand → Option (TypeId × Opd)
  | .tmp t => match (E.get (2 * t)).k with
    | .val [ty] false [ld] => match one tt ty with
      | some (.sl e) => if liveLd E ld then some (e, .v (2 * t) 0 1) else none
      | _ => none
    | _ => none
  | _ => none

section
variable {Γ : Ctx} {S : BSet} {E : SE} {ρ : Env} {a : Act} {w : World} {V : Nat → List Value} {O : Nat → Nat → BSet} {B : Nat → Nat}

theorem slcOpd_ok (h : InvG Γ S E.get ρ a w V O B) {x : Operand} {e : TypeId} {od : Opd} (hx : slcOpd Γ.tt E x = some (e, od)) :
    ∃ v l, a.eval x = v ∧ od.get ρ = [l] ∧ Rd Γ.tl w (fun _ => True) (.sl e) v l := by
  cases x with
  | tmp t =>
    simp only [slcOpd] at hx
    split at hx
    · rename_i ty ld he
      split at hx
      · rename_i e' ho
        split at hx
        · rename_i hl
          simp only [Option.some.injEq, Prod.mk.injEq] at hx
          obtain ⟨rfl, rfl⟩ := hx
          obtain ⟨v, l, ld', h1, h2, h3, h4, h5, _⟩ := h.val1 he ho
          cases h1
          obtain ⟨_, _, g3⟩ := one_spec ho
          refine ⟨v, l, h4, by simp [Opd.get, h3], h.live_read (k := 2 * t) (j := 0) (ld := ld) ?_ ?_ (by rw [h2]; rfl) (by rw [h3]; rfl) hl⟩
          · simp [Ent.lds, he, EK.lds]
          · simp [he, EK.lv, g3]
        · cases hx
      · cases hx
    · cases hx
  | const c => cases hx
  | global g => cases hx
  | func f => cases hx

theorem Rd.slice {tl : TL} {F : BSet} {e : TypeId} {v : Value} {l : L} (h : Rd tl w F (.sl e) v l) : ∃ base len cap xs, v = .slice base len cap ∧ l = .l xs ∧ xs.length = len := by
  cases h with
  | nil => exact ⟨_, _, _, _, rfl, rfl, rfl⟩
  | sl Vf Xf hF hb hlc hcap hc hr => exact ⟨_, _, _, _, rfl, rfl, rows_length _ _ _⟩

end

def trBinOp (tt : TypeId → TI) (N : Nat) (E : SE) (t : Nat) (ty : TypeId) (op : BinOp) (xT : TypeId) (x y : Operand) : TR :=
  match sclOpd tt E x, sclOpd tt E y, one tt ty with
  | some (τx, ox), some (τy, oy), some τ =>
    match trBin op τx τy with
    | some (p, τr) => if τr = τ ∧ t < N ∧ (τx = .bool → one tt xT = some .bool) then some (setVal E t [ty] false [.pub 0], .op (2 * t) p [ox, oy]) else none
    | none => none
  | _, _, _ => none

def trUn (tt : TypeId → TI) (N : Nat) (E : SE) (t : Nat) (ty : TypeId) (op : UnOp) (x : Operand) : TR :=
  match sclOpd tt E x, one tt ty with
  | some (τx, ox), some τ =>
    if τx = τ ∧ t < N then
      match op, τx with
      | .not, .bool => some (setVal E t [ty] false [.pub 0], .op (2 * t) .not [ox])
      | .neg, .int k => some (setVal E t [ty] false [.pub 0], .op (2 * t) (.neg k) [ox])
      | .xor, .int k => some (setVal E t [ty] false [.pub 0], .op (2 * t) (.com k) [ox])
      | _, _ => none
    else none
  | _, _ => none

def trCvt (tt : TypeId → TI) (N : Nat) (E : SE) (t : Nat) (ty : TypeId) (src dst : TypeId) (x : Operand) : TR :=
  match sclOpd tt E x, one tt src, one tt dst with
  | some (.int _, ox), some (.int _), some (.int k) => if t < N ∧ one tt ty = some (.int k) then some (setVal E t [ty] false [.pub 0], .op (2 * t) (.cvt k) [ox]) else none
  | _, _, _ => none

def trLen (tt : TypeId → TI) (N : Nat) (E : SE) (t : Nat) (ty : TypeId) (xT : TypeId) (x : Operand) : TR :=
  if t < N ∧ one tt ty = some (.int .i64) then
    match one tt xT with
    | some .str => match sclOpd tt E x with
      | some (.str, ox) => some (setVal E t [ty] false [.pub 0], .op (2 * t) .slen [ox])
      | _ => none
    | some (.sl _) => match slcOpd tt E x with
      | some (_, ox) => some (setVal E t [ty] false [.pub 0], .op (2 * t) .len [ox])
      | none => none
    | _ => none
  else none

def trIdx (tt : TypeId → TI) (N : Nat) (E : SE) (t : Nat) (ty : TypeId) (xT : TypeId) (x i : Operand) : TR :=
  match one tt xT, sclOpd tt E x, sclOpd tt E i with
  | some .str, some (.str, ox), some (.int _, oi) => if t < N ∧ one tt ty = some (.int .u8) then some (setVal E t [ty] false [.pub 0], .op (2 * t) .sidx [ox, oi]) else none
  | _, _, _ => none

def trExtract (tt : TypeId → TI) (N : Nat) (E : SE) (t : Nat) (x : Operand) (i : Nat) : TR :=
  match x with
  | .tmp s => match (E.get (2 * s)).k with
    | .val ts true lds => match ts[i]? with
      | some ty =>
        let off := ((ts.take i).flatMap fun t => (tt t).lv).length
        let n := (tt ty).lv.length
        if t < N then some (setVal E t [ty] false (copyNL (2 * t) (2 * s) off ((lds.drop off).take n)), .op (2 * t) .id [.v (2 * s) off n]) else none
      | none => none
    | _ => none
  | _ => none

def trField (tt : TypeId → TI) (N : Nat) (E : SE) (t : Nat) (xT : TypeId) (x : Operand) (f : Nat) : TR :=
  match x with
  | .tmp s => match (E.get (2 * s)).k with
    | .val [ty] false lds =>
      match (tt xT).flds[f]? with
      | some (off, ft) =>
        if t < N ∧ (tt xT).ok = true ∧ (tt xT).agg = true ∧ (tt ty).agg = true ∧ (tt ty).lv = (tt xT).lv then
          some (setVal E t [ft] false (copyNL (2 * t) (2 * s) off ((lds.drop off).take (tt ft).lv.length)), .op (2 * t) .id [.v (2 * s) off (tt ft).lv.length])
        else none
      | none => none
    | _ => none
  | _ => none

/-- A load of a variable, or of a part of it. -/
def trLoadB (tt : TypeId → TI) (N : Nat) (E : SE) (t : Nat) (ty : TypeId) (k id off : Nat) : TR :=
  match (E.get k).k with
  | .box bty id' lds =>
    if t < N ∧ id = id' ∧ (tt ty).ok = true ∧ ((tt bty).lv.drop off).take (tt ty).lv.length = (tt ty).lv then
      some (setVal E t [ty] false (copyNL (2 * t) k off ((lds.drop off).take (tt ty).lv.length)), .op (2 * t) .id [.v k off (tt ty).lv.length])
    else none
  | _ => none

section
variable {Γ : Ctx} {E : SE}

theorem eqGuard_scl {τ : Leaf} {v : Value} {l : L} (h : Scl τ v l) (op : BinOp) (t : TypeId) (x y : Operand) (u : Value) : eqGuard op t x y v u = pure () := by
  cases h
  · exact eqGuard_at_int _ _ _ _ _ _ _
  · exact eqGuard_at_bool _ _ _ _ _ _
  · exact eqGuard_at_string _ _ _ _ _ _

theorem trBin_one {op : BinOp} {τx τy τr : Leaf} {p : Prim} (h : trBin op τx τy = some (p, τr)) {x y r : Row} (hr : p.run [x, y] = some r) : ∃ l, r = [l] := by
  have : (∃ o k, p = .binI o k) ∨ (∃ o, p = .binS o) ∨ (p = .binB .eql) ∨ p = .binB .neq := by
    cases τx <;> cases τy <;> simp only [trBin, reduceCtorEq] at h
    · cases op <;> simp only [Option.some.injEq, Prod.mk.injEq, reduceCtorEq] at h
      all_goals first
        | exact .inl ⟨_, _, h.1.symm⟩
        | (split at h
           · simp only [Option.some.injEq, Prod.mk.injEq] at h; exact .inl ⟨_, _, h.1.symm⟩
           · cases h)
    · cases op <;> simp only [Option.some.injEq, Prod.mk.injEq, reduceCtorEq] at h
      · exact .inr (.inr (.inl h.1.symm))
      · exact .inr (.inr (.inr h.1.symm))
    · cases op <;> simp only [Option.some.injEq, Prod.mk.injEq, reduceCtorEq] at h
      all_goals exact .inr (.inl ⟨_, h.1.symm⟩)
  rcases this with ⟨o, k, rfl⟩ | ⟨o, rfl⟩ | rfl | rfl
  · simp only [Prim.run, Option.map_eq_some_iff] at hr; obtain ⟨l, _, h2⟩ := hr; exact ⟨l, h2.symm⟩
  · simp only [Prim.run, Option.map_eq_some_iff] at hr; obtain ⟨l, _, h2⟩ := hr; exact ⟨l, h2.symm⟩
  · simp only [Prim.run, Option.some.injEq] at hr; exact ⟨_, hr.symm⟩
  · simp only [Prim.run, Option.some.injEq] at hr; exact ⟨_, hr.symm⟩

theorem trBinOp_snd (hT : TTOK Γ.P Γ.tt) (o : Oper) {t : Nat} {op : BinOp} {xT yT : TypeId} {x y : Operand} (hd : o.dst = some t) (ho : o.op = .binOp op xT x y yT) {E' : SE} {c : Cmd}
    (htr : trBinOp Γ.tt Γ.N E t o.type op xT x y = some (E', c)) : Snd Γ E o E' c := by
  intro F n ρ ρ' a w hinv hden
  unfold trBinOp at htr
  split at htr
  · rename_i τx ox τy oy τ h1 h2 h3
    split at htr
    · rename_i p τr h4
      split at htr
      · rename_i hc
        obtain ⟨rfl, ht, hb⟩ := hc
        cases htr
        obtain ⟨r, g1, rfl⟩ := den_op hden
        obtain ⟨V, O, B, hI⟩ := hinv
        obtain ⟨v, lx, e1, e2, e3⟩ := sclOpd_ok hI h1
        obtain ⟨u, ly, f1, f2, f3⟩ := sclOpd_ok hI h2
        simp only [List.map_cons, List.map_nil, e2, f2] at g1
        obtain ⟨l, rfl⟩ := trBin_one h4 g1
        obtain ⟨rv, k1, k2⟩ := run_bin h4 e3 f3 (xT := xT) (fun hx => hT.one (hb hx)) g1 w
        refine .inl ⟨rv, w, ?_, ?_⟩
        · simp only [execOp, ho, e1, f1, eqGuard_scl e3]
          simp [k2]
        · rw [hd]; exact hI.setScl ht h3 k1
      · cases htr
    · cases htr
  · cases htr

theorem trUn_snd (o : Oper) {t : Nat} {op : UnOp} {xT : TypeId} {x : Operand} (hd : o.dst = some t) (ho : o.op = .unOp op xT x) {E' : SE} {c : Cmd} (htr : trUn Γ.tt Γ.N E t o.type op x = some (E', c)) : Snd Γ E o E' c := by
  intro F n ρ ρ' a w hinv hden
  unfold trUn at htr
  split at htr
  · rename_i τx ox τ h1 h3
    split at htr
    · rename_i hc
      obtain ⟨rfl, ht⟩ := hc
      obtain ⟨V, O, B, hI⟩ := hinv
      obtain ⟨v, lx, e1, e2, e3⟩ := sclOpd_ok hI h1
      split at htr
      · cases htr
        obtain ⟨r, g1, rfl⟩ := den_op hden
        simp only [List.map_cons, List.map_nil, e2, Prim.run, Option.some.injEq] at g1
        subst g1
        cases e3 with
        | bool =>
          refine .inl ⟨_, w, by simp only [execOp, ho, e1, Op.unary]; rfl, ?_⟩
          rw [hd]; exact hI.setScl ht h3 .bool
      · rename_i k
        cases htr
        obtain ⟨r, g1, rfl⟩ := den_op hden
        simp only [List.map_cons, List.map_nil, e2, Prim.run, Option.some.injEq] at g1
        subst g1
        cases e3 with
        | int =>
          refine .inl ⟨_, w, by simp only [execOp, ho, e1, Op.unary, Op.intArith]; rfl, ?_⟩
          rw [hd]; exact hI.setScl ht h3 .int
      · rename_i k
        cases htr
        obtain ⟨r, g1, rfl⟩ := den_op hden
        simp only [List.map_cons, List.map_nil, e2, Prim.run, Option.some.injEq] at g1
        subst g1
        cases e3 with
        | int =>
          refine .inl ⟨_, w, by simp only [execOp, ho, e1, Op.unary, Op.intBits]; rfl, ?_⟩
          rw [hd]; exact hI.setScl ht h3 .int
      · cases htr
    · cases htr
  · cases htr

theorem trCvt_snd (hT : TTOK Γ.P Γ.tt) (o : Oper) {t : Nat} {src dst : TypeId} {x : Operand} (hd : o.dst = some t) (ho : o.op = .convert src dst x) {E' : SE} {c : Cmd} (htr : trCvt Γ.tt Γ.N E t o.type src dst x = some (E', c)) : Snd Γ E o E' c := by
  intro F n ρ ρ' a w hinv hden
  unfold trCvt at htr
  split at htr
  · rename_i k0 ox k1 k h1 h2 h3
    split at htr
    · rename_i hc
      cases htr
      obtain ⟨r, g1, rfl⟩ := den_op hden
      obtain ⟨V, O, B, hI⟩ := hinv
      obtain ⟨v, lx, e1, e2, e3⟩ := sclOpd_ok hI h1
      simp only [List.map_cons, List.map_nil, e2, Prim.run, Option.some.injEq] at g1
      subst g1
      have hs := hT.one h2
      have hd' := hT.one h3
      simp only [leafIs] at hs hd'
      cases e3 with
      | @int _ m =>
        refine .inl ⟨.int k (k.wrap m), w, ?_, ?_⟩
        · simp [execOp, ho, e1, convert, run_underlying hs, run_underlying hd', Conv.intToInt]
        · rw [hd]; exact hI.setScl hc.1 hc.2 .int
    · cases htr
  · cases htr

theorem trLen_snd (hT : TTOK Γ.P Γ.tt) (o : Oper) {t : Nat} {xT : TypeId} {x : Operand} (hd : o.dst = some t) (ho : o.op = .call { callee := .builtin .len, args := #[x], argTypes := #[xT] }) {E' : SE} {c : Cmd}
    (htr : trLen Γ.tt Γ.N E t o.type xT x = some (E', c)) : Snd Γ E o E' c := by
  intro F n ρ ρ' a w hinv hden
  unfold trLen at htr
  split at htr
  · rename_i hc
    obtain ⟨V, O, B, hI⟩ := hinv
    split at htr
    · rename_i h1
      have hs := hT.one h1
      simp only [leafIs] at hs
      split at htr
      · rename_i ox h2
        cases htr
        obtain ⟨r, g1, rfl⟩ := den_op hden
        obtain ⟨v, lx, e1, e2, e3⟩ := sclOpd_ok hI h2
        simp only [List.map_cons, List.map_nil, e2, Prim.run, Option.some.injEq] at g1
        subst g1
        cases e3 with
        | @str s =>
          refine .inl ⟨goInt s.size, w, ?_, ?_⟩
          · simp [execOp, ho, resolve, invoke, builtin, e1, Builtin.len_, run_underlying hs]
          · rw [hd]; exact hI.setScl hc.1 hc.2 .int
      · cases htr
    · rename_i e0 h1
      have hs := hT.one h1
      simp only [leafIs] at hs
      split at htr
      · rename_i e ox h2
        cases htr
        obtain ⟨r, g1, rfl⟩ := den_op hden
        obtain ⟨v, lx, e1, e2, e3⟩ := slcOpd_ok hI h2
        obtain ⟨base, len, cap, xs, rfl, rfl, hlen⟩ := e3.slice
        simp only [List.map_cons, List.map_nil, e2, Prim.run, Option.some.injEq] at g1
        subst g1
        refine .inl ⟨goInt len, w, ?_, ?_⟩
        · simp [execOp, ho, resolve, invoke, builtin, e1, Builtin.len_, run_underlying hs]
        · rw [hd]
          have : (Lgo.hd [L.l xs]).list.length = len := hlen
          rw [this]
          exact hI.setScl hc.1 hc.2 .int
      · cases htr
    · cases htr
  · cases htr

end

end Go.Lgo

namespace Go.Lgo
open Go

theorem flat_part (f : TypeId → List Leaf) (ts : List TypeId) (i : Nat) (ty : TypeId) (h : ts[i]? = some ty) : ((ts.flatMap f).drop ((ts.take i).flatMap f).length).take (f ty).length = f ty := by
  induction ts generalizing i with
  | nil => simp at h
  | cons t ts ih =>
    cases i with
    | zero => simp only [List.getElem?_cons_zero, Option.some.injEq] at h; subst h; simp
    | succ i =>
      simp only [List.getElem?_cons_succ] at h
      have := ih i h
      simp only [List.flatMap_cons, List.take_succ_cons, List.length_append]
      rw [List.drop_append, List.drop_of_length_le (by omega), List.nil_append, show (f t).length + ((ts.take i).flatMap f).length - (f t).length = ((ts.take i).flatMap f).length by omega]
      exact this

section
variable {Γ : Ctx} {E : SE}

theorem trExtract_snd (o : Oper) {t : Nat} {x : Operand} {i : Nat} (hd : o.dst = some t) (ho : o.op = .extract x i) {E' : SE} {c : Cmd} (htr : trExtract Γ.tt Γ.N E t x i = some (E', c)) : Snd Γ E o E' c := by
  intro F n ρ ρ' a w hinv hden
  unfold trExtract at htr
  split at htr
  · rename_i s
    split at htr
    · rename_i ts lds he
      split at htr
      · rename_i ty hty
        simp only [Option.ite_none_right_eq_some, Option.some.injEq, Prod.mk.injEq] at htr
        obtain ⟨ht, rfl, rfl⟩ := htr
        obtain ⟨r, g1, rfl⟩ := den_op hden
        obtain ⟨V, O, B, hI⟩ := hinv
        have hh : (E.get (2 * s)).k.holds = true := by rw [he]; rfl
        have hlds : (E.get (2 * s)).lds = lds := by simp [Ent.lds, he, EK.lds]
        have hlv : (((E.get (2 * s)).k.lv Γ.tt).drop ((ts.take i).flatMap fun t => (Γ.tt t).lv).length).take (Γ.tt ty).lv.length = (Γ.tt ty).lv := by
          rw [he]; exact flat_part (fun t => (Γ.tt t).lv) ts i ty hty
        have hI2 := hI.copy (t := t) (s := 2 * s) (off := ((ts.take i).flatMap fun t => (Γ.tt t).lv).length) (ty := ty) ht hh hlv
        simp only [List.map_cons, List.map_nil, Opd.get, Prim.run, Option.some.injEq] at g1
        subst g1
        rw [hlds] at hI2
        refine .inl ⟨_, w, ?_, by rw [hd]; exact hI2⟩
        have hev := hI.evalVal he
        simp only [execOp, ho, hev, packs, if_true, Instr.extract]
        have := packL_get Γ.tt ts (V (2 * s)) i ty hty
        simp [this]
      · cases htr
    · cases htr
  · cases htr

theorem trField_snd (hT : TTOK Γ.P Γ.tt) (o : Oper) {t : Nat} {xT : TypeId} {x : Operand} {f : Nat} (hd : o.dst = some t) (ho : o.op = .field xT x f) {E' : SE} {c : Cmd} (htr : trField Γ.tt Γ.N E t xT x f = some (E', c)) : Snd Γ E o E' c := by
  intro F n ρ ρ' a w hinv hden
  unfold trField at htr
  split at htr
  · rename_i s
    split at htr
    · rename_i ty lds he
      split at htr
      · rename_i off ft hf
        simp only [Option.ite_none_right_eq_some, Option.some.injEq, Prod.mk.injEq] at htr
        obtain ⟨⟨ht, hok, hag, hag', hlvs⟩, rfl, rfl⟩ := htr
        obtain ⟨r, g1, rfl⟩ := den_op hden
        obtain ⟨V, O, B, hI⟩ := hinv
        have hh : (E.get (2 * s)).k.holds = true := by rw [he]; rfl
        have hlds : (E.get (2 * s)).lds = lds := by simp [Ent.lds, he, EK.lds]
        have tk := hT xT hok
        obtain ⟨hfo, hfl⟩ := tk.fields f off ft hf
        have hlv1 : (E.get (2 * s)).k.lv Γ.tt = (Γ.tt xT).lv := by rw [he]; simp [EK.lv, hlvs]
        have hlv : (((E.get (2 * s)).k.lv Γ.tt).drop off).take (Γ.tt ft).lv.length = (Γ.tt ft).lv := by rw [hlv1]; exact hfl
        have hI2 := hI.copy (t := t) (s := 2 * s) (off := off) (ty := ft) ht hh hlv
        simp only [List.map_cons, List.map_nil, Opd.get, Prim.run, Option.some.injEq] at g1
        subst g1
        rw [hlds] at hI2
        refine .inl ⟨_, w, ?_, by rw [hd]; exact hI2⟩
        have hev := (hI.tmpVal he).2
        rw [pack1_agg hag'] at hev
        have hds := tk.desc
        rw [if_pos hag] at hds
        obtain ⟨fs, hu, hfl2⟩ := hds
        have hfs : ∃ fd, fs[f]? = some fd ∧ fd.offset = off ∧ fd.type = ft := by
          rw [← hfl2] at hf
          simp only [List.getElem?_map, Array.getElem?_toList, Option.map_eq_some_iff, Prod.mk.injEq] at hf
          exact hf
        obtain ⟨fd, hfd, ho', ht'⟩ := hfs
        have hlen := hI.lens hh
        have hb := congrArg List.length hlv
        simp only [List.length_take, List.length_drop] at hb
        have hpos : 0 < (Γ.tt ft).lv.length := by obtain ⟨_, _, _, _, _, _, _, _, h⟩ := (hT ft hfo).info; exact h
        have hp := run_partT hT hfo (vs := V (2 * s)) (off := off) (by omega) w
        simp only [execOp, ho, hev, Instr.field, Sem.run_bind, run_underlying hu, Result.andThen_ok, hfd, asAgg, Sem.run_pure, ho', ht', hp]
      · cases htr
    · cases htr
  · cases htr

theorem trLoadB_snd (hT : TTOK Γ.P Γ.tt) (o : Oper) {t s : Nat} {ty : TypeId} {k id off : Nat} (hd : o.dst = some t) (ho : o.op = .load ty (.tmp s)) (hk : (E.get (2 * s)).k = .bp k id off) {E' : SE} {c : Cmd}
    (htr : trLoadB Γ.tt Γ.N E t ty k id off = some (E', c)) : Snd Γ E o E' c := by
  intro F n ρ ρ' a w hinv hden
  unfold trLoadB at htr
  split at htr
  · rename_i bty id' lds he
    simp only [Option.ite_none_right_eq_some, Option.some.injEq, Prod.mk.injEq] at htr
    obtain ⟨⟨ht, rfl, hok, hlvs⟩, rfl, rfl⟩ := htr
    obtain ⟨r, g1, rfl⟩ := den_op hden
    obtain ⟨V, O, B, hI⟩ := hinv
    have hh : (E.get k).k.holds = true := by rw [he]; rfl
    have hlds : (E.get k).lds = lds := by simp [Ent.lds, he, EK.lds]
    have hlv : (((E.get k).k.lv Γ.tt).drop off).take (Γ.tt ty).lv.length = (Γ.tt ty).lv := by rw [he]; exact hlvs
    have hI2 := hI.copy (t := t) (s := k) (off := off) (ty := ty) ht hh hlv
    simp only [List.map_cons, List.map_nil, Opd.get, Prim.run, Option.some.injEq] at g1
    subst g1
    rw [hlds] at hI2
    refine .inl ⟨_, w, ?_, by rw [hd]; exact hI2⟩
    have htm := (hI.slot (2 * s)).tm s rfl
    rw [hk] at htm
    have h1 := htm ⟨bty, lds, he⟩
    have hev : a.eval (.tmp s) = .pointer (some ⟨B k, off, none⟩) := by simp only [Act.eval, Array.getD_eq_getD_getElem?, h1, Option.getD_some]
    have hb := ((hI.slot k).bx _ _ _ he).1
    have hlen := hI.lens hh
    have hbl := congrArg List.length hlv
    simp only [List.length_take, List.length_drop] at hbl
    have hld := run_loadVarT hT hok hb (off := off) (us := ((V k).drop off).take (Γ.tt ty).lv.length) (by simp only [List.length_take, List.length_drop]; omega)
      (fun j hj => by
        simp only [List.length_take, List.length_drop] at hj
        rw [List.getElem?_take, if_pos (by omega), List.getElem?_drop]; simp)
    simp only [execOp, ho, hev, Instr.loadAt, Instr.sureAddr, Sem.run_bind, Sem.run_pure, Result.andThen_ok, hld]
  · cases htr

end

end Go.Lgo

namespace Go.Lgo
open Go

/-- The address of a field. -/
def trFieldAddr (tt : TypeId → TI) (N : Nat) (E : SE) (t : Nat) (xT : TypeId) (x : Operand) (f : Nat) : TR :=
  match x with
  | .tmp s =>
    if t < N ∧ (tt xT).ok = true ∧ (tt xT).agg = true then
      match (tt xT).flds[f]? with
      | some (foff, _) =>
        match (E.get (2 * s)).k with
        | .bp k id off => match (E.get k).k with
          | .box _ id' _ => if id = id' ∧ k ≠ 2 * t then some (setPtr E t (.bp k id (off + foff)), .skip) else none
          | _ => none
        | .ep s' j id e off => match (E.get s').lds[j]? with
          | some (.own _ id' _) => if id = id' ∧ s' ≠ 2 * t then some (setPtr E t (.ep s' j id e (off + foff)), .op (2 * t) .id [.v (2 * s) 0 1]) else none
          | _ => none
        | .pep m e off => some (setPtr E t (.pep m e (off + foff)), .op (2 * t) .id [.v (2 * s) 0 (tt e).lv.length])
        | _ => none
      | none => none
    else none
  | _ => none

/-- A pointer that is known not to be nil. -/
def trNilCheck (tt : TypeId → TI) (N : Nat) (E : SE) (t : Nat) (x : Operand) : TR :=
  match x with
  | .tmp s =>
    if t < N then
      match (E.get (2 * s)).k with
      | .bp k id off => match (E.get k).k with
        | .box _ id' _ => if id = id' ∧ k ≠ 2 * t then some (setPtr E t (.bp k id off), .skip) else none
        | _ => none
      | .ep s' j id e off => match (E.get s').lds[j]? with
        | some (.own _ id' _) => if id = id' ∧ s' ≠ 2 * t then some (setPtr E t (.ep s' j id e off), .op (2 * t) .id [.v (2 * s) 0 1]) else none
        | _ => none
      | .pep m e off => some (setPtr E t (.pep m e off), .op (2 * t) .id [.v (2 * s) 0 (tt e).lv.length])
      | _ => none
    else none
  | _ => none

section
variable {Γ : Ctx} {E : SE}

/-- A pointer moved by some cells. -/
theorem InvG.movePtr {ρ : Env} {a : Act} {w : World} {V : Nat → List Value} {O : Nat → Nat → BSet} {B : Nat → Nat} (h : InvG Γ none' E.get ρ a w V O B) {t : Nat} (ht : t < Γ.N) {e : EK} {r : Row} {v : Value} (he : e.holds = false)
    (hok : TOK Γ (XS none' E.get O B) E.get r (some v) w V B [] e)
    (hk : ∀ k' id off, e = .bp k' id off → k' ≠ 2 * t ∧ id ≤ (E.get k').ver) (hep : ∀ s j id el off, e = .ep s j id el off → s ≠ 2 * t ∧ id ≤ (E.get s).ver) :
    Inv' Γ (Lgo.setPtr E t e) (upd ρ (2 * t) r) (a.put (some t) v) w := by
  refine ⟨upd V (2 * t) [], upd O (2 * t) fun _ _ => False, upd B (2 * t) 0, ?_⟩
  rw [Lgo.setPtr, SE.get_put]
  exact h.setPtr t e r v he (by rw [h.tsz]; exact ht) hok hk hep

theorem bp_eval {S : BSet} {ρ : Env} {a : Act} {w : World} {V : Nat → List Value} {O : Nat → Nat → BSet} {B : Nat → Nat} (h : InvG Γ S E.get ρ a w V O B) {s k id off : Nat} (he : (E.get (2 * s)).k = .bp k id off) (hb : (E.get k).k.isBox id) :
    a.eval (.tmp s) = .pointer (some ⟨B k, off, none⟩) := by
  have htm := (h.slot (2 * s)).tm s rfl
  rw [he] at htm
  have h1 := htm hb
  simp only [Act.eval, Array.getD_eq_getD_getElem?, h1, Option.getD_some]

theorem trFieldAddr_snd (hT : TTOK Γ.P Γ.tt) (o : Oper) {t : Nat} {xT : TypeId} {x : Operand} {f : Nat} (hd : o.dst = some t) (ho : o.op = .fieldAddr xT x f) {E' : SE} {c : Cmd} (htr : trFieldAddr Γ.tt Γ.N E t xT x f = some (E', c)) : Snd Γ E o E' c := by
  intro F n ρ ρ' a w hinv hden
  unfold trFieldAddr at htr
  split at htr
  · rename_i s
    split at htr
    · rename_i hc
      obtain ⟨ht, hok, hag⟩ := hc
      split at htr
      · rename_i foff ft hf
        have tk := hT xT hok
        obtain ⟨hfo, hfl⟩ := tk.fields f foff ft hf
        have hds := tk.desc
        rw [if_pos hag] at hds
        obtain ⟨fs, hu, hfl2⟩ := hds
        have hfs : ∃ fd, fs[f]? = some fd ∧ fd.offset = foff ∧ fd.type = ft := by
          rw [← hfl2] at hf
          simp only [List.getElem?_map, Array.getElem?_toList, Option.map_eq_some_iff, Prod.mk.injEq] at hf
          exact hf
        obtain ⟨fd, hfd, ho', ht'⟩ := hfs
        have hpos : (Γ.tt ft).lv.length ≠ 0 := by obtain ⟨_, _, _, _, _, _, _, _, h⟩ := (hT ft hfo).info; omega
        have hrun : ∀ (b off : Nat), (Instr.fieldAt xT (.pointer (some ⟨b, off, none⟩)) f).run Γ.P w = .ok (.pointer (some ⟨b, off + foff, none⟩)) w := by
          intro b off
          simp only [Instr.fieldAt, Sem.run_bind, run_underlying hu, Result.andThen_ok, hfd, Instr.sureAddr, Sem.run_pure, fieldPlace, ho', ht', run_sizeOfT hT hfo, hpos, if_false, Addr.add_lit]
        have hfin : ∀ (b off : Nat), a.eval (.tmp s) = .pointer (some ⟨b, off, none⟩) → (execOp a.eval o).run Γ.P w = .ok (.value (.pointer (some ⟨b, off + foff, none⟩))) w := by
          intro b off hev
          simp only [execOp, ho, hev, Sem.run_bind, hrun, Result.andThen_ok, Sem.run_pure]
        obtain ⟨V, O, B, hI⟩ := hinv
        have sl := hI.slot (2 * s)
        split at htr
        · rename_i k id off he
          split at htr
          · rename_i bty id' lds hb
            simp only [Option.ite_none_right_eq_some, Option.some.injEq, Prod.mk.injEq] at htr
            obtain ⟨⟨rfl, hne⟩, rfl, rfl⟩ := htr
            have := den_skip hden
            subst this
            have hbx : (E.get k).k.isBox id := ⟨bty, lds, hb⟩
            refine .inl ⟨_, w, hfin _ _ (bp_eval hI he hbx), ?_⟩
            rw [hd]
            have := hI.movePtr ht (e := .bp k id (off + foff)) (r := ρ' (2 * t)) (v := .pointer (some ⟨B k, off + foff, none⟩)) rfl (fun _ => rfl) (by rintro k' id' off' h; cases h; exact ⟨hne, sl.idK _ _ _ he⟩) (by rintro s j id e off h; cases h)
            rw [upd_self] at this
            exact this
          · cases htr
        · rename_i s' j id e off he
          split at htr
          · rename_i ds id' cid hl
            simp only [Option.ite_none_right_eq_some, Option.some.injEq, Prod.mk.injEq] at htr
            obtain ⟨⟨rfl, hne⟩, rfl, rfl⟩ := htr
            obtain ⟨r, h1, rfl⟩ := den_op hden
            have htm := sl.tm s rfl
            rw [he] at htm
            obtain ⟨b, len, cap, i, g1, g2, g3, g4, g5⟩ := htm ⟨ds, cid, hl⟩
            have hr : r = [.i i] := by
              simp only [List.map_cons, List.map_nil, Opd.get, List.drop_zero, Prim.run, Option.some.injEq] at h1
              rw [← h1, g3]; rfl
            have hev : a.eval (.tmp s) = .pointer (some ⟨b, i * (Γ.tl e).length + off, none⟩) := by simp only [Act.eval, Array.getD_eq_getD_getElem?, g5, Option.getD_some]
            refine .inl ⟨_, w, hfin _ _ hev, ?_⟩
            rw [hd]
            exact hI.movePtr ht (e := .ep s' j id e (off + foff)) rfl (fun _ => ⟨b, len, cap, i, g1, g2, hr, g4, by rw [Nat.add_assoc]⟩) (by rintro k' id' off' h; cases h) (by rintro s1 j1 id1 e1 off1 h; cases h; exact ⟨hne, sl.idE _ _ _ _ _ he⟩)
          · cases htr
        · rename_i m e off he
          cases htr
          obtain ⟨r, h1, rfl⟩ := den_op hden
          have htm := sl.tm s rfl
          rw [he] at htm
          obtain ⟨b, base, cs, e', fr, us, g1, g2, g3, g4, g5, g6, g7⟩ := htm
          have hr : r = ρ (2 * s) := by
            simp only [List.map_cons, List.map_nil, Opd.get, List.drop_zero, Prim.run, Option.some.injEq] at h1
            rw [← h1]
            exact List.take_of_length_le (Nat.le_of_eq g5)
          have hev : a.eval (.tmp s) = .pointer (some ⟨b, base + off, none⟩) := by simp only [Act.eval, Array.getD_eq_getD_getElem?, g3, Option.getD_some]
          refine .inl ⟨_, w, hfin _ _ hev, ?_⟩
          rw [hd]
          exact hI.movePtr ht (e := .pep m e (off + foff)) rfl ⟨b, base, cs, e', fr, us, g1, g2, by rw [Nat.add_assoc], g4, by rw [hr]; exact g5, g6, by rw [hr]; exact g7⟩ (by rintro k' id' off' h; cases h) (by rintro s1 j1 id1 e1 off1 h; cases h)
        · cases htr
      · cases htr
    · cases htr
  · cases htr

theorem trNilCheck_snd (o : Oper) {t : Nat} {x : Operand} (hd : o.dst = some t) (ho : o.op = .nilCheck x) {E' : SE} {c : Cmd} (htr : trNilCheck Γ.tt Γ.N E t x = some (E', c)) : Snd Γ E o E' c := by
  intro F n ρ ρ' a w hinv hden
  unfold trNilCheck at htr
  split at htr
  · rename_i s
    split at htr
    · rename_i ht
      have hfin : ∀ (b off : Nat), a.eval (.tmp s) = .pointer (some ⟨b, off, none⟩) → (execOp a.eval o).run Γ.P w = .ok (.value (.pointer (some ⟨b, off, none⟩))) w := by
        intro b off hev
        simp only [execOp, ho, hev, Sem.run_pure]
      obtain ⟨V, O, B, hI⟩ := hinv
      have sl := hI.slot (2 * s)
      split at htr
      · rename_i k id off he
        split at htr
        · rename_i bty id' lds hb
          simp only [Option.ite_none_right_eq_some, Option.some.injEq, Prod.mk.injEq] at htr
          obtain ⟨⟨rfl, hne⟩, rfl, rfl⟩ := htr
          have := den_skip hden
          subst this
          have hbx : (E.get k).k.isBox id := ⟨bty, lds, hb⟩
          refine .inl ⟨_, w, hfin _ _ (bp_eval hI he hbx), ?_⟩
          rw [hd]
          have := hI.movePtr ht (e := .bp k id off) (r := ρ' (2 * t)) (v := .pointer (some ⟨B k, off, none⟩)) rfl (fun _ => rfl) (by rintro k' id' off' h; cases h; exact ⟨hne, sl.idK _ _ _ he⟩) (by rintro s j id e off h; cases h)
          rw [upd_self] at this
          exact this
        · cases htr
      · rename_i s' j id e off he
        split at htr
        · rename_i ds id' cid hl
          simp only [Option.ite_none_right_eq_some, Option.some.injEq, Prod.mk.injEq] at htr
          obtain ⟨⟨rfl, hne⟩, rfl, rfl⟩ := htr
          obtain ⟨r, h1, rfl⟩ := den_op hden
          have htm := sl.tm s rfl
          rw [he] at htm
          obtain ⟨b, len, cap, i, g1, g2, g3, g4, g5⟩ := htm ⟨ds, cid, hl⟩
          have hr : r = [.i i] := by
            simp only [List.map_cons, List.map_nil, Opd.get, List.drop_zero, Prim.run, Option.some.injEq] at h1
            rw [← h1, g3]; rfl
          have hev : a.eval (.tmp s) = .pointer (some ⟨b, i * (Γ.tl e).length + off, none⟩) := by simp only [Act.eval, Array.getD_eq_getD_getElem?, g5, Option.getD_some]
          refine .inl ⟨_, w, hfin _ _ hev, ?_⟩
          rw [hd]
          exact hI.movePtr ht (e := .ep s' j id e off) rfl (fun _ => ⟨b, len, cap, i, g1, g2, hr, g4, rfl⟩) (by rintro k' id' off' h; cases h) (by rintro s1 j1 id1 e1 off1 h; cases h; exact ⟨hne, sl.idE _ _ _ _ _ he⟩)
        · cases htr
      · rename_i m e off he
        cases htr
        obtain ⟨r, h1, rfl⟩ := den_op hden
        have htm := sl.tm s rfl
        rw [he] at htm
        obtain ⟨b, base, cs, e', fr, us, g1, g2, g3, g4, g5, g6, g7⟩ := htm
        have hr : r = ρ (2 * s) := by
          simp only [List.map_cons, List.map_nil, Opd.get, List.drop_zero, Prim.run, Option.some.injEq] at h1
          rw [← h1]
          exact List.take_of_length_le (Nat.le_of_eq g5)
        have hev : a.eval (.tmp s) = .pointer (some ⟨b, base + off, none⟩) := by simp only [Act.eval, Array.getD_eq_getD_getElem?, g3, Option.getD_some]
        refine .inl ⟨_, w, hfin _ _ hev, ?_⟩
        rw [hd]
        exact hI.movePtr ht (e := .pep m e off) rfl ⟨b, base, cs, e', fr, us, g1, g2, rfl, g4, by rw [hr]; exact g5, g6, by rw [hr]; exact g7⟩ (by rintro k' id' off' h; cases h) (by rintro s1 j1 id1 e1 off1 h; cases h)
      · cases htr
    · cases htr
  · cases htr

end

/-- A row operand: its leaves' states as a copy, its datum. -/
def rowOpd (tt : TypeId → TI) (E : SE) (k0 : Nat) (lv : List Leaf) (agg : Bool) : Operand → Option (List NL × Opd)
  | .tmp s => match (E.get (2 * s)).k with
    | .val [ty] false lds => if (tt ty).lv = lv ∧ (tt ty).agg = agg then some (copyNL k0 (2 * s) 0 lds, .v (2 * s) 0 lds.length) else none
    | _ => none
  | .const v => if agg = isAggV v then (cstCells tt lv v.cells.toList).map fun p => (p.2, .k p.1) else none
  | _ => none

section
variable {Γ : Ctx} {S : BSet} {E : SE} {ρ : Env} {a : Act} {w w' : World} {V : Nat → List Value} {O : Nat → Nat → BSet} {B : Nat → Nat}

/-- What a row operand is: its cells, and that they may be copied into another slot; nothing of it is owned there, but empty slices. -/
theorem rowOpd_ok (h : InvG Γ S E.get ρ a w V O B) {k0 : Nat} {lv : List Leaf} {agg : Bool} {x : Operand} {nls : List NL} {od : Opd} (hx : rowOpd Γ.tt E k0 lv agg x = some (nls, od)) :
    ∃ vs : List Value, (a.eval x = if agg then .agg vs.toArray else vs.headD undef) ∧ vs.length = lv.length ∧ nls.length = lv.length ∧ (od.get ρ).length = lv.length ∧ (∀ v, v ∈ vs → v.oneCell' = true) ∧
      ∀ (j : Nat) nl τ v x, nls[j]? = some nl → lv[j]? = some τ → vs[j]? = some v → (od.get ρ)[j]? = some x → ∀ w', (∀ c o, w.heap[c]? = some o → ¬ XS S E.get O B c → w'.heap[c]? = some o) → NLOK Γ (XS S E.get O B) E.get ρ w w' V none' k0 τ nl v x none' := by
  cases x with
  | tmp s =>
    simp only [rowOpd] at hx
    split at hx
    · rename_i ty lds he
      split at hx
      · rename_i hc
        obtain ⟨rfl, rfl⟩ := hc
        cases hx
        have hh : (E.get (2 * s)).k.holds = true := by rw [he]; rfl
        obtain ⟨e1, e2, e3⟩ := h.lens hh
        have hlds : (E.get (2 * s)).lds = lds := by simp [Ent.lds, he, EK.lds]
        have hlv : (E.get (2 * s)).k.lv Γ.tt = (Γ.tt ty).lv := by rw [he]; simp [EK.lv]
        rw [hlv] at e1 e2 e3
        rw [hlds] at e3
        have sl := h.slot (2 * s)
        have hget : (Opd.v (2 * s) 0 lds.length).get ρ = ρ (2 * s) := by simp only [Opd.get, List.drop_zero]; exact List.take_of_length_le (by omega)
        refine ⟨V (2 * s), (h.tmpVal he).2, e1, by rw [copyNL_length]; exact e3, by rw [hget]; exact e2, sl.oc, ?_⟩
        intro j nl τ v x g1 g2 g3 g4 w' hw'
        rw [hget] at g4
        rw [copyNL_get] at g1
        obtain ⟨ld, g5, rfl⟩ := Option.map_eq_some_iff.1 g1
        have h0 := sl.leaf j ld τ v x (by rw [hlds]; exact g5) (by rw [hlv]; exact g2) g3 g4
        cases ld with
        | dead => trivial
        | own ds id cid =>
          simp only [LD.cp, Nat.zero_add]
          by_cases e : 2 * s = k0
          · rw [if_pos e]; trivial
          · rw [if_neg e]
            exact ⟨e, (sl.idO j _ _ _ (by rw [hlds]; exact g5)).2, fun _ => ⟨g3, g4, by rw [hlv]; exact g2⟩⟩
        | pub m cid => exact Rd.mono h0 fun b o hb ho => ⟨hw' b o ho hb.1, .inl ⟨hb, (Array.getElem?_eq_some_iff.1 ho).1⟩⟩
        | alias s' j' cid =>
          simp only [LD.cp]
          by_cases e : s' = k0
          · rw [if_pos e]; trivial
          · rw [if_neg e]
            exact ⟨e, sl.idA j _ _ _ (by rw [hlds]; exact g5), h0⟩
      · cases hx
    · cases hx
  | const v =>
    simp only [rowOpd, Option.ite_none_right_eq_some, Option.map_eq_some_iff] at hx
    obtain ⟨hag, ⟨ls, ns⟩, hc, h2⟩ := hx
    cases h2
    obtain ⟨g1, g2, g3, g4⟩ := cstCells_spec hc
    refine ⟨v.cells.toList, ?_, g1, g3, g2, cstCells_oc hc, ?_⟩
    · rw [hag]
      cases v <;> simp [isAggV, Value.cells, Act.eval]
    · intro j nl τ v' x k1 k2 k3 k4 w' _
      exact cstCell_ok (g4 j τ v' x nl k2 k3 k4 k1)
  | global g => cases hx
  | func f => cases hx

end

end Go.Lgo

namespace Go.Lgo
open Go

theorem odd_ne (t : Nat) : ∀ t', 2 * t + 1 ≠ 2 * t' := by intro t'; omega

/-- A new variable's state. -/
def newBox (E : SE) (t : Nat) (ty : TypeId) (nls : List NL) : SE :=
  let E1 := E.put (2 * t + 1) ⟨(E.get (2 * t + 1)).ver + 1, .box ty ((E.get (2 * t + 1)).ver + 1) (mixLd ((E.get (2 * t + 1)).ver + 1) (E.get (2 * t + 1)).lds (nls.map some))⟩
  setPtr E1 t (.bp (2 * t + 1) ((E.get (2 * t + 1)).ver + 1) 0)

def zeroNL (tt : TypeId → TI) : Leaf → NL
  | .sl e => .own (fullDs tt 8 e)
  | _ => .pub 0

def trAlloc (tt : TypeId → TI) (N : Nat) (E : SE) (t : Nat) (ty : TypeId) : TR :=
  if t < N ∧ (tt ty).ok = true then some (newBox E t ty ((tt ty).lv.map (zeroNL tt)), .op (2 * t + 1) .id [.k ((tt ty).lv.map zeroL)]) else none

def trBox (tt : TypeId → TI) (N : Nat) (E : SE) (t : Nat) (ty : TypeId) (x : Operand) : TR :=
  if t < N ∧ (tt ty).ok = true then
    match rowOpd tt E (2 * t + 1) (tt ty).lv (tt ty).agg x with
    | some (nls, od) => some (xferAll (newBox E t ty nls) (2 * t + 1) nls.length, .op (2 * t + 1) .id [od])
    | none => none
  else none

/-- A store into a variable, or into a part of it. -/
def trStoreB (tt : TypeId → TI) (E : SE) (ty : TypeId) (k id off : Nat) (x : Operand) : TR :=
  match (E.get k).k with
  | .box bty id' lds =>
    let n := (tt ty).lv.length
    if id = id' ∧ k % 2 = 1 ∧ (tt ty).ok = true ∧ ((tt bty).lv.drop off).take n = (tt ty).lv then
      match rowOpd tt E k (tt ty).lv (tt ty).agg x with
      | some (nls, od) =>
        let ns := List.replicate off none ++ nls.map some ++ List.replicate (lds.length - (off + n)) none
        let E1 := E.put k ⟨(E.get k).ver + 1, .box bty id' (mixLd ((E.get k).ver + 1) lds ns)⟩
        some (xferAll E1 k lds.length, .op k (.put off) [.v k 0 lds.length, od])
      | none => none
    else none
  | _ => none

section
variable {Γ : Ctx} {E : SE}

/-- A variable is made and its address laid into a temporary. -/
theorem InvG.newBox {ρ : Env} {a : Act} {w : World} {V : Nat → List Value} {O : Nat → Nat → BSet} {B : Nat → Nat} (h : InvG Γ none' E.get ρ a w V O B) {t : Nat} (ht : t < Γ.N) {ty : TypeId} {nls : List NL} {vs : List Value} {r : Row}
    (hoc : ∀ v, v ∈ vs → v.oneCell' = true) (hv : vs.length = nls.length) (hr : r.length = nls.length) (hl : (Γ.tt ty).lv.length = nls.length)
    (hleaf : ∀ (j : Nat) nl τ v x, nls[j]? = some nl → (Γ.tt ty).lv[j]? = some τ → vs[j]? = some v → r[j]? = some x → ∀ w', (∀ c o, w.heap[c]? = some o → ¬ XS none' E.get O B c → w'.heap[c]? = some o) → NLOK Γ (XS none' E.get O B) E.get ρ w w' V none' (2 * t + 1) τ nl v x none') :
    Inv' Γ (Lgo.newBox E t ty nls) (upd ρ (2 * t + 1) r) (a.put (some t) (.pointer (some ⟨w.heap.size, 0, none⟩))) (w.alloc (.cells vs.toArray ty (0, 0))) := by
  have hnew : (w.alloc (.cells vs.toArray ty (0, 0))).heap[w.heap.size]? = some (.cells vs.toArray ty (0, 0)) := heap_alloc_new w _
  have hold : ∀ (c : Nat) (o : Obj), w.heap[c]? = some o → (w.alloc (.cells vs.toArray ty (0, 0))).heap[c]? = some o := by
    intro c o ho
    have hlt := (Array.getElem?_eq_some_iff.1 ho).1
    rw [heap_alloc_old w _ c hlt]; exact ho
  have hns : ∀ j : Nat, (nls.map some)[j]? ≠ some none := by
    intro j hj
    simp only [List.getElem?_map, Option.map_eq_some_iff] at hj
    obtain ⟨_, _, h2⟩ := hj
    cases h2
  have h1 := h.setBox (w' := w.alloc (.cells vs.toArray ty (0, 0))) (S' := none') (2 * t + 1) (odd_ne t) ty ((E.get (2 * t + 1)).ver + 1) (nls.map some) vs r (fun _ _ => False) w.heap.size rfl rfl rfl (by simp)
    (.inl ⟨rfl, .inr (Nat.le_refl _), hns⟩) (fun c o ho _ => hold c o ho) (fun c o j _ hn _ => absurd hn (hns j)) hnew (.inl (.inl h.size)) (fun c hc => hc.elim) (fun _ _ hf => hf.elim) (fun j hn => absurd hn (hns j))
    (fun _ _ _ hf => hf.elim) (fun _ _ _ hf => hf.elim) (fun _ _ hf => hf.elim) (fun _ hf => hf.elim) (fun hf => hf) (fun _ hf => hf) (fun _ _ hf => hf.elim) hoc (by simp [hv]) (by simp [hr]) (by simp [hl])
    (by
      intro j nl τ v x g1 g2 g3 g4
      have g1' : nls[j]? = some nl := by
        simp only [List.getElem?_map, Option.map_eq_some_iff, Option.some.injEq, exists_eq_right] at g1; exact g1
      exact hleaf j nl τ v x g1' g2 g3 g4 _ fun c o ho _ => hold c o ho)
  have e1 : (E.put (2 * t + 1) ⟨(E.get (2 * t + 1)).ver + 1, .box ty ((E.get (2 * t + 1)).ver + 1) (mixLd ((E.get (2 * t + 1)).ver + 1) (E.get (2 * t + 1)).lds (nls.map some))⟩).get =
    upd E.get (2 * t + 1) ⟨(E.get (2 * t + 1)).ver + 1, .box ty ((E.get (2 * t + 1)).ver + 1) (mixLd ((E.get (2 * t + 1)).ver + 1) (E.get (2 * t + 1)).lds (nls.map some))⟩ := SE.get_put _ _ _
  rw [← e1] at h1
  unfold Lgo.newBox
  have h2 := h1.movePtr ht (e := .bp (2 * t + 1) ((E.get (2 * t + 1)).ver + 1) 0) (r := upd ρ (2 * t + 1) r (2 * t)) (v := .pointer (some ⟨w.heap.size, 0, none⟩)) rfl (fun _ => by rw [upd_same])
    (by rintro k' id off hh; cases hh; exact ⟨by omega, by rw [e1, upd_same]; exact Nat.le_refl _⟩) (by rintro s j id el off hh; cases hh)
  rw [upd_self] at h2
  exact h2

theorem zeroNL_ok {X : BSet} {E : SS} {ρ : Env} {w w' : World} {V : Nat → List Value} {k0 : Nat} (τ : Leaf) : NLOK Γ X E ρ w w' V none' k0 τ (zeroNL Γ.tt τ) (zeroV τ) (zeroL τ) none' := by
  cases τ
  · exact .int
  · exact .bool
  · exact .str
  · exact Own.nil fun _ hf => hf
theorem zeroV_oc (τ : Leaf) : (zeroV τ).oneCell' = true := by cases τ <;> rfl

theorem trAlloc_snd (hT : TTOK Γ.P Γ.tt) (o : Oper) {t : Nat} {ty : TypeId} (hd : o.dst = some t) (ho : o.op = .alloc ty) {E' : SE} {c : Cmd} (htr : trAlloc Γ.tt Γ.N E t ty = some (E', c)) : Snd Γ E o E' c := by
  intro F n ρ ρ' a w hinv hden
  unfold trAlloc at htr
  simp only [Option.ite_none_right_eq_some, Option.some.injEq, Prod.mk.injEq] at htr
  obtain ⟨⟨ht, hok⟩, rfl, rfl⟩ := htr
  obtain ⟨r, g1, rfl⟩ := den_op hden
  simp only [List.map_cons, List.map_nil, Opd.get, Prim.run, Option.some.injEq] at g1
  subst g1
  obtain ⟨V, O, B, hI⟩ := hinv
  have h2 := hI.newBox ht (ty := ty) (nls := (Γ.tt ty).lv.map (zeroNL Γ.tt)) (vs := (Γ.tt ty).lv.map zeroV) (r := (Γ.tt ty).lv.map zeroL)
    (by intro v hv; obtain ⟨τ, _, rfl⟩ := List.mem_map.1 hv; exact zeroV_oc τ) (by simp) (by simp) (by simp)
    (by
      intro j nl τ v x k1 k2 k3 k4 w' _
      simp only [List.getElem?_map, k2, Option.map_some, Option.some.injEq] at k1 k3 k4
      subst k1 k3 k4
      exact zeroNL_ok τ)
  obtain ⟨i, z, k1, k2, k3, k4, _⟩ := (hT ty hok).info
  refine .inl ⟨_, _, ?_, by rw [hd]; exact h2⟩
  have hz : z.cells = ((Γ.tt ty).lv.map zeroV).toArray := by rw [← k4]
  simp [execOp, ho, Instr.alloc, zeroValue, typeInfo, k1, k3, newVar, newRow, hz]

theorem cells_oc {v : Value} (h : v.oneCell' = true) : v.cells = #[v] := by cases v <;> first | rfl | cases h
theorem cells_pack (hT : TTOK Γ.P Γ.tt) {ty : TypeId} (hok : (Γ.tt ty).ok = true) {vs : List Value} (hl : vs.length = (Γ.tt ty).lv.length) (hoc : ∀ v, v ∈ vs → v.oneCell' = true) :
    (if (Γ.tt ty).agg = true then Value.agg vs.toArray else vs.headD undef).cells = vs.toArray := by
  by_cases hag : (Γ.tt ty).agg = true
  · rw [if_pos hag]; rfl
  · rw [if_neg hag]
    have hds := (hT ty hok).desc
    rw [if_neg hag] at hds
    obtain ⟨τ, h1, _⟩ := hds
    rw [h1] at hl
    obtain ⟨v, rfl⟩ := List.length_eq_one_iff.1 hl
    exact cells_oc (hoc v (by simp))

theorem trBox_snd (hT : TTOK Γ.P Γ.tt) (o : Oper) {t : Nat} {ty : TypeId} {x : Operand} (hd : o.dst = some t) (ho : o.op = .box ty x) {E' : SE} {c : Cmd} (htr : trBox Γ.tt Γ.N E t ty x = some (E', c)) : Snd Γ E o E' c := by
  intro F n ρ ρ' a w hinv hden
  unfold trBox at htr
  split at htr
  · rename_i hc
    obtain ⟨ht, hok⟩ := hc
    split at htr
    · rename_i nls od hx
      cases htr
      obtain ⟨r, g1, rfl⟩ := den_op hden
      simp only [List.map_cons, List.map_nil, Prim.run, Option.some.injEq] at g1
      subst g1
      obtain ⟨V, O, B, hI⟩ := hinv
      obtain ⟨vs, e1, e2, e3, e4, e5, e6⟩ := rowOpd_ok hI hx
      have h2 := hI.newBox ht (ty := ty) (nls := nls) (vs := vs) (r := od.get ρ) e5 (by omega) (by omega) (by omega) e6
      refine .inl ⟨_, _, ?_, by rw [hd]; exact h2.xferAll _ _⟩
      have hcells : (a.eval x).cells = vs.toArray := by rw [e1]; exact cells_pack hT hok e2 e5
      simp [execOp, ho, Instr.box, newVar, newRow, hcells]
    · cases htr
  · cases htr

theorem mid_get {α : Type} (off n rest : Nat) (ms : List (Option α)) (hm : ms.length = n) (j : Nat) :
    (List.replicate off none ++ ms ++ List.replicate rest none)[j]? = if j < off then some none else if j < off + n then ms[j - off]? else if j < off + n + rest then some none else none := by
  by_cases h1 : j < off
  · rw [if_pos h1, List.append_assoc, List.getElem?_append_left (by simpa using h1)]
    simp [h1]
  · rw [if_neg h1]
    by_cases h2 : j < off + n
    · rw [if_pos h2, List.getElem?_append_left (by simp; omega), List.getElem?_append_right (by simp; omega)]
      simp
    · rw [if_neg h2]
      by_cases h3 : j < off + n + rest
      · rw [if_pos h3, List.getElem?_append_right (by simp; omega)]
        simp only [List.length_append, List.length_replicate, hm]
        rw [List.getElem?_replicate, if_pos (by omega)]
      · rw [if_neg h3, List.getElem?_eq_none (by simp; omega)]

theorem splice_length {α : Type} (old new : List α) (off : Nat) (h : off + new.length ≤ old.length) : (old.take off ++ new ++ old.drop (off + new.length)).length = old.length := by
  simp; omega
theorem splice_get {α : Type} (old new : List α) (off : Nat) (h : off + new.length ≤ old.length) (j : Nat) : (old.take off ++ new ++ old.drop (off + new.length))[j]? = if j < off then old[j]? else if j < off + new.length then new[j - off]? else old[j]? := by
  by_cases h1 : j < off
  · rw [if_pos h1, List.append_assoc, List.getElem?_append_left (by simp; omega), List.getElem?_take, if_pos h1]
  · rw [if_neg h1]
    by_cases h2 : j < off + new.length
    · rw [if_pos h2, List.getElem?_append_left (by simp; omega), List.getElem?_append_right (by simp; omega)]
      congr 1; simp; omega
    · rw [if_neg h2, List.getElem?_append_right (by simp; omega), List.getElem?_drop]
      congr 1; simp; omega

theorem trStoreB_snd (hT : TTOK Γ.P Γ.tt) (o : Oper) {s : Nat} {ty : TypeId} {k id off : Nat} {x : Operand} (hd : o.dst = none) (ho : o.op = .store ty (.tmp s) x) (hk : (E.get (2 * s)).k = .bp k id off) {E' : SE} {c : Cmd}
    (htr : trStoreB Γ.tt E ty k id off x = some (E', c)) : Snd Γ E o E' c := by
  intro F n ρ ρ' a w hinv hden
  unfold trStoreB at htr
  split at htr
  · rename_i bty id' lds he
    dsimp only at htr
    split at htr
    · rename_i hc
      obtain ⟨rfl, hodd, hok, hlvs⟩ := hc
      split at htr
      · rename_i nls od hx
        cases htr
        obtain ⟨r, g1, rfl⟩ := den_op hden
        obtain ⟨V, O, B, hI⟩ := hinv
        have hh : (E.get k).k.holds = true := by rw [he]; rfl
        have hlds : (E.get k).lds = lds := by simp [Ent.lds, he, EK.lds]
        have hlv : (E.get k).k.lv Γ.tt = (Γ.tt bty).lv := by rw [he]; rfl
        obtain ⟨l1, l2, l3⟩ := hI.lens hh
        rw [hlv] at l1 l2 l3
        rw [hlds] at l3
        obtain ⟨us, e1, e2, e3, e4, e5, e6⟩ := rowOpd_ok hI hx
        have hbl := congrArg List.length hlvs
        simp only [List.length_take, List.length_drop] at hbl
        have hfit : off + (Γ.tt ty).lv.length ≤ (Γ.tt bty).lv.length := by
          have hpos : 0 < (Γ.tt ty).lv.length := by obtain ⟨_, _, _, _, _, _, _, _, h⟩ := (hT ty hok).info; exact h
          omega
        have hrow : (Opd.v k 0 lds.length).get ρ = ρ k := by simp only [Opd.get, List.drop_zero]; exact List.take_of_length_le (by omega)
        simp only [List.map_cons, List.map_nil, hrow, Prim.run, Option.some.injEq] at g1
        subst g1
        have hb := ((hI.slot k).bx _ _ _ he).1
        have hbf := ((hI.slot k).bx _ _ _ he).2
        let vs : List Value := (V k).take off ++ us ++ (V k).drop (off + us.length)
        have hvl : vs.length = (V k).length := splice_length _ _ _ (by omega)
        let ns : List (Option NL) := List.replicate off none ++ nls.map some ++ List.replicate (lds.length - (off + (Γ.tt ty).lv.length)) none
        have hnsl : ns.length = lds.length := by simp only [ns, List.length_append, List.length_replicate, List.length_map]; omega
        have hng : ∀ j : Nat, ns[j]? = if j < off then some none else if j < off + (Γ.tt ty).lv.length then (nls.map some)[j - off]? else if j < off + (Γ.tt ty).lv.length + (lds.length - (off + (Γ.tt ty).lv.length)) then some none else none :=
          fun j => mid_get off _ _ _ (by simp [e3]) j
        have hvg : ∀ j : Nat, vs[j]? = if j < off then (V k)[j]? else if j < off + us.length then us[j - off]? else (V k)[j]? := fun j => splice_get _ _ _ (by omega) j
        have hrg : ∀ j : Nat, (splice (ρ k) (od.get ρ) off)[j]? = if j < off then (ρ k)[j]? else if j < off + (od.get ρ).length then (od.get ρ)[j - off]? else (ρ k)[j]? := fun j => splice_get _ _ _ (by omega) j
        have hnone : ∀ j : Nat, ns[j]? = some none → (j < off ∨ off + (Γ.tt ty).lv.length ≤ j) ∧ j < lds.length := by
          intro j hj
          have hjl := (List.getElem?_eq_some_iff.1 hj).1
          rw [hng] at hj
          refine ⟨?_, by omega⟩
          by_cases h1 : j < off
          · exact .inl h1
          · rw [if_neg h1] at hj
            by_cases h2 : j < off + (Γ.tt ty).lv.length
            · rw [if_pos h2] at hj
              simp only [List.getElem?_map, Option.map_eq_some_iff] at hj
              obtain ⟨_, _, h3⟩ := hj; cases h3
            · exact .inr (by omega)
        have hocs : ∀ v, v ∈ vs → v.oneCell' = true := by
          intro v hv
          rcases List.mem_append.1 hv with hv | hv
          · rcases List.mem_append.1 hv with hv | hv
            · exact (hI.slot k).oc v (List.mem_of_mem_take hv)
            · exact e5 v hv
          · exact (hI.slot k).oc v (List.mem_of_mem_drop hv)
        have hst := run_storeCells_at Γ.P (B k) off bty us 0 (V k).toArray w hb (by simp; omega) e5
        simp only [Nat.add_zero] at hst
        have hrow2 : ((V k).toArray.toList.take off ++ us ++ (V k).toArray.toList.drop (off + us.length)).toArray = vs.toArray := by simp [vs]
        rw [hrow2] at hst
        have hkl : B k < w.heap.size := (Array.getElem?_eq_some_iff.1 hb).1
        have hnX : XS none' E.get O B (B k) := .inr (.inr ⟨k, id, ⟨bty, lds, he⟩, rfl⟩)
        have h1 := hI.setBox (w' := w.setRow (B k) vs.toArray) (S' := none') k (fun t => by omega) bty id ns vs (splice (ρ k) (od.get ρ) off) (fun j c => ns[j]? = some none ∧ O k j c) (B k) rfl rfl rfl (by simp [World.setRow])
          (.inr ⟨⟨bty, lds, he⟩, rfl, hlv⟩)
          (fun c o ho hm => by
            have : c ≠ B k := fun e => hm (.inr (.inr (.inl ⟨⟨id, bty, lds, he⟩, e.symm⟩)))
            rw [setRow_other w _ _ _ this]; exact ho)
          (fun c o j hoc _ ho => by
            have : c ≠ B k := fun e => hI.bown k id k j ⟨bty, lds, he⟩ (e ▸ hoc)
            rw [setRow_other w _ _ _ this]; exact ho)
          (setRow_heap w _ _ _ _ _ hb) hbf (fun c hc => hc.elim) (fun j c hc => .inl hc)
          (fun j hj => by
            obtain ⟨h2, h3⟩ := hnone j hj
            refine ⟨by funext c; simp [hj], ?_, ?_, by rw [hlds]; exact h3⟩
            · rw [hvg]
              rcases h2 with h2 | h2
              · rw [if_pos h2]
              · rw [if_neg (by omega), if_neg (by omega)]
            · rw [hrg]
              rcases h2 with h2 | h2
              · rw [if_pos h2]
              · rw [if_neg (by omega), if_neg (by omega)])
          (fun j j' c h1 h2 => (hI.disj _ _ _ _ _ h1.2 h2.2).2) (fun c j hs _ => hs.elim) (fun j c hc => (hI.slot k).fresh j c hc.2) (fun c hs => hs.elim) (fun hs => hs)
          (fun j hc => hI.bown k id k j ⟨bty, lds, he⟩ hc.2) (fun j c hc => .inl hc.1) hocs (by rw [hvl, hnsl]; omega) (by unfold splice; rw [splice_length _ _ _ (by omega), hnsl]; omega) (by omega)
          (by
            intro j nl τ v y k1 k2 k3 k4
            rw [hng] at k1
            by_cases h1 : j < off
            · rw [if_pos h1] at k1; cases k1
            · rw [if_neg h1] at k1
              by_cases h2 : j < off + (Γ.tt ty).lv.length
              · rw [if_pos h2] at k1
                simp only [List.getElem?_map, Option.map_eq_some_iff, Option.some.injEq, exists_eq_right] at k1
                rw [hvg, if_neg h1, if_pos (by omega)] at k3
                rw [hrg, if_neg h1, if_pos (by omega)] at k4
                have k2' : (Γ.tt ty).lv[j - off]? = some τ := by
                  rw [← hlvs, List.getElem?_take, if_pos (by omega), List.getElem?_drop, show off + (j - off) = j by omega]; exact k2
                have := e6 (j - off) nl τ v y k1 k2' k3 k4 (w.setRow (B k) vs.toArray) (fun c o ho hc => by
                  have : c ≠ B k := fun e => hc (e ▸ hnX)
                  rw [setRow_other w _ _ _ this]; exact ho)
                have hOe : (fun c => ns[j]? = some none ∧ O k j c) = none' := by
                  funext c
                  apply propext
                  constructor
                  · rintro ⟨hn, _⟩
                    have := (hnone j hn).1
                    omega
                  · exact fun h => h.elim
                rw [hOe]
                exact this
              · rw [if_neg h2] at k1
                split at k1 <;> cases k1)
        have e1' : (E.put k ⟨(E.get k).ver + 1, .box bty id (mixLd ((E.get k).ver + 1) lds ns)⟩).get = upd E.get k ⟨(E.get k).ver + 1, .box bty id (mixLd ((E.get k).ver + 1) lds ns)⟩ := SE.get_put _ _ _
        rw [hlds, ← e1'] at h1
        refine .inr ⟨w.setRow (B k) vs.toArray, ?_, ?_⟩
        · have hev := bp_eval hI hk ⟨bty, lds, he⟩
          have hcells : (a.eval x).cells = us.toArray := by rw [e1]; exact cells_pack hT hok e2 e5
          simp [execOp, ho, hev, Instr.storeAt, Instr.sureAddr, storeVar, hcells, run_sizeOfT hT hok, e2, hst]
        · rw [hd]
          have h2 : Inv' Γ (E.put k ⟨(E.get k).ver + 1, .box bty id (mixLd ((E.get k).ver + 1) lds ns)⟩) (upd ρ k (splice (ρ k) (od.get ρ) off)) a (w.setRow (B k) vs.toArray) := ⟨_, _, _, h1⟩
          exact h2.xferAll _ _
      · cases htr
    · cases htr
  · cases htr

end

end Go.Lgo

namespace Go.Lgo
open Go

/-- A leaf is published, if it is owned there or where it is an alias of. -/
def pubLeaf (E : SE) (k j : Nat) : SE :=
  match (E.get k).lds[j]? with
  | some (.own ds _ cid) => E.put k ⟨(E.get k).ver, (E.get k).k.setLds ((E.get k).lds.set j (.pub (Dsc.masks ds) cid))⟩
  | some (.alias s j' _) => match (E.get s).lds[j']? with
    | some (.own ds _ cid) => E.put s ⟨(E.get s).ver, (E.get s).k.setLds ((E.get s).lds.set j' (.pub (Dsc.masks ds) cid))⟩
    | _ => E
  | _ => E
def pubSlot (E : SE) (k : Nat) : Nat → SE
  | 0 => E
  | n + 1 => pubLeaf (pubSlot E k n) k n
/-- The mask of a published leaf (or of an alias of one). -/
def rdMask (E : SE) (ld : LD) : Option Nat :=
  match ld with
  | .pub m _ => some m
  | .alias s j cid => match (E.get s).lds[j]? with
    | some (.pub m cid') => if cid = cid' then some m else none
    | _ => none
  | _ => none

section
variable {Γ : Ctx} {S : BSet} {E : SE} {ρ : Env} {a : Act} {w w' : World} {V : Nat → List Value} {O : Nat → Nat → BSet} {B : Nat → Nat}

theorem XS_setLd_sub {E : SS} {k j : Nat} {ld : LD} {c : Nat} (h : XS S (SS.setLd E k j ld) (minus O k j) B c) : XS S E O B c := by
  rcases h with hs | ⟨k', j', hc⟩ | ⟨k', id', hc, h2⟩
  · exact .inl hs
  · refine .inr (.inl ⟨k', j', ?_⟩)
    by_cases hkk : k' = k
    · subst hkk; unfold minus at hc; rw [upd_same] at hc; exact hc.2
    · unfold minus at hc; rw [upd_ne _ _ hkk] at hc; exact hc
  · refine .inr (.inr ⟨k', id', ?_, h2⟩)
    by_cases hkk : k' = k
    · subst hkk; unfold SS.setLd at hc; rw [upd_same] at hc; exact (EK.setLds_box _ _).1 hc
    · rw [SS.setLd_other _ hkk] at hc; exact hc

theorem InvG.pubLeaf (h : InvG Γ S E.get ρ a w V O B) (k j : Nat) : ∃ O', InvG Γ S (Lgo.pubLeaf E k j).get ρ a w V O' B ∧ ∀ c, XS S (Lgo.pubLeaf E k j).get O' B c → XS S E.get O B c := by
  unfold Lgo.pubLeaf
  split
  · rename_i ds id cid hl
    rw [SE.get_put]
    exact ⟨_, h.publish hl (Dsc.under_mask.2 ds), fun c hc => XS_setLd_sub hc⟩
  · rename_i s j' cid hl
    split
    · rename_i ds id cid' hl'
      rw [SE.get_put]
      exact ⟨_, h.publish hl' (Dsc.under_mask.2 ds), fun c hc => XS_setLd_sub hc⟩
    · exact ⟨_, h, fun c hc => hc⟩
  · exact ⟨_, h, fun c hc => hc⟩
theorem InvG.pubSlot (h : InvG Γ S E.get ρ a w V O B) (k n : Nat) : ∃ O', InvG Γ S (Lgo.pubSlot E k n).get ρ a w V O' B ∧ ∀ c, XS S (Lgo.pubSlot E k n).get O' B c → XS S E.get O B c := by
  induction n with
  | zero => exact ⟨_, h, fun c hc => hc⟩
  | succ n ih =>
    obtain ⟨O', h', hs⟩ := ih
    obtain ⟨O2, h2, hs2⟩ := h'.pubLeaf k n
    exact ⟨O2, h2, fun c hc => hs c (hs2 c hc)⟩

theorem InvG.rdMask (h : InvG Γ S E.get ρ a w V O B) {k j : Nat} {ld : LD} {m : Nat} {τ : Leaf} {v : Value} {x : L} (hl : (E.get k).lds[j]? = some ld) (hm : Lgo.rdMask E ld = some m)
    (hτ : ((E.get k).k.lv Γ.tt)[j]? = some τ) (hv : (V k)[j]? = some v) (hx : (ρ k)[j]? = some x) : Rd Γ.tl w (Γ.FP (XS S E.get O B) m) τ v x := by
  have h0 := (h.slot k).leaf j ld τ v x hl hτ hv hx
  cases ld with
  | own => cases hm
  | dead => cases hm
  | pub m' cid => cases hm; exact h0
  | alias s j' cid =>
    simp only [Lgo.rdMask] at hm
    split at hm
    · rename_i m' cid' hl'
      split at hm
      · rename_i hc
        subst hc
        cases hm
        obtain ⟨g1, g2, g3⟩ := h0 (.inr ⟨m, hl'⟩)
        exact (h.slot s).leaf j' _ τ v x hl' g3 g1 g2
      · cases hm
    · cases hm

end

/-- Where a slice operand stands: owned at a slot's leaf, or published. -/
inductive RS where
  | own (s j : Nat) (ds : List Dsc) (id cid : Nat)
  | pub (m : Nat)

def resLd (E : SE) (k j : Nat) : LD → Option RS
  | .own ds id cid => some (.own k j ds id cid)
  | .pub m _ => some (.pub m)
  | .alias s j' cid => match (E.get s).lds[j']? with
    | some (.own ds id cid') => if cid = cid' then some (.own s j' ds id cid) else none
    | some (.pub m cid') => if cid = cid' then some (.pub m) else none
    | _ => none
  | .dead => none

/-- A slice operand, with where it stands. -/
def slcRS (tt : TypeId → TI) (E : SE) : Operand → Option (TypeId × Nat × RS)
  | .tmp t => match (E.get (2 * t)).k with
    | .val [ty] false [ld] => match one tt ty with
      | some (.sl e) => (resLd E (2 * t) 0 ld).map fun r => (e, 2 * t, r)
      | _ => none
    | _ => none
  | _ => none

def trIndexAddr (tt : TypeId → TI) (N : Nat) (E : SE) (t : Nat) (xT : TypeId) (x i : Operand) : TR :=
  match slcRS tt E x, sclOpd tt E i with
  | some (e, s, r), some (.int _, oi) =>
    if t < N ∧ one tt xT = some (.sl e) ∧ (tt e).ok = true then
      match r with
      | .own s' j _ id _ => if s' ≠ 2 * t then some (setPtr E t (.ep s' j id e 0), .op (2 * t) .chk [.v s 0 1, oi]) else none
      | .pub m => some (setPtr E t (.pep m e 0), .op (2 * t) .row [.v s 0 1, oi])
    else none
  | _, _ => none

/-- A load of a part of a published element. -/
def trLoadP (tt : TypeId → TI) (N : Nat) (E : SE) (t s : Nat) (ty m : Nat) (e : TypeId) (off : Nat) : TR :=
  let n := (tt ty).lv.length
  if t < N ∧ (tt ty).ok = true ∧ ((tt e).lv.drop off).take n = (tt ty).lv then
    some (setVal E t [ty] false (List.replicate n (.pub m)), .op (2 * t) .id [.v (2 * s) off n])
  else none

section
variable {Γ : Ctx} {E : SE}

theorem run_indexAtT (hT : TTOK Γ.P Γ.tt) {xT e : TypeId} (hx : Γ.P.underlying xT = some (.slice e)) (he : (Γ.tt e).ok = true) {b off len cap : Nat} {k : IntKind} {i : Int} (h0 : 0 ≤ i) (h1 : i < len) (w : World) :
    (Instr.indexAt xT (.slice (some ⟨b, off, none⟩) len cap) (.int k i)).run Γ.P w = .ok (.pointer (some ⟨b, off + i.toNat * (Γ.tl e).length, none⟩)) w := by
  have hE : Γ.P.elem xT = e := by simp [Program.elem, hx]
  rw [run_indexAt_slice w xT _ len cap k i (by rw [hE]; exact hx), if_pos ⟨h0, h1⟩, hE, run_sizeOfT hT he]
  simp only [Result.andThen_ok, Addr.add_lit]
  rfl

theorem trIndexAddr_snd (hT : TTOK Γ.P Γ.tt) (o : Oper) {t : Nat} {xT : TypeId} {x i : Operand} (hd : o.dst = some t) (ho : o.op = .indexAddr xT x i) {E' : SE} {c : Cmd} (htr : trIndexAddr Γ.tt Γ.N E t xT x i = some (E', c)) : Snd Γ E o E' c := by
  intro F n ρ ρ' a w hinv hden
  unfold trIndexAddr at htr
  split at htr
  · rename_i e s r k oi hs hi
    split at htr
    · rename_i hc
      obtain ⟨ht, hxT, heok⟩ := hc
      obtain ⟨V, O, B, hI⟩ := hinv
      have hu := hT.one hxT
      simp only [leafIs] at hu
      obtain ⟨iv, il, f1, f2, f3⟩ := sclOpd_ok hI hi
      cases f3 with
      | @int _ ix =>
      cases x with
      | tmp sx =>
        simp only [slcRS] at hs
        split at hs
        · rename_i ty ld he
          split at hs
          · rename_i e0 ho1
            simp only [Option.map_eq_some_iff, Prod.mk.injEq] at hs
            obtain ⟨rs, hres, rfl, rfl, rfl⟩ := hs
            obtain ⟨v, l, ld', h1, h2, h3, h4, h5, _⟩ := hI.val1 he ho1
            cases h1
            obtain ⟨_, _, g3⟩ := one_spec ho1
            have hl0 : (E.get (2 * sx)).lds[0]? = some ld := by simp [Ent.lds, he, EK.lds]
            have hτ0 : ((E.get (2 * sx)).k.lv Γ.tt)[0]? = some (.sl e0) := by simp [he, EK.lv, g3]
            have hrow : (Opd.v (2 * sx) 0 1).get ρ = [l] := by simp [Opd.get, h3]
            split at htr
            · rename_i s' j ds id cid
              simp only [Option.ite_none_right_eq_some, Option.some.injEq, Prod.mk.injEq] at htr
              obtain ⟨hne, rfl, rfl⟩ := htr
              obtain ⟨r, g1, rfl⟩ := den_op hden
              simp only [List.map_cons, List.map_nil, hrow, f2, Prim.run, Option.ite_none_right_eq_some, Option.some.injEq] at g1
              obtain ⟨⟨c1, c2⟩, rfl⟩ := g1
              -- the owner's leaf
              have hroot : (E.get s').lds[j]? = some (.own ds id cid) ∧ (V s')[j]? = some v ∧ ((E.get s').k.lv Γ.tt)[j]? = some (.sl e0) ∧ Own Γ.tl w (Γ.FP (XS none' E.get O B)) (.sl e0) (.own ds) v l (O s' j) := by
                cases ld with
                | own ds' id' cid' => cases hres; exact ⟨hl0, by rw [h2]; rfl, hτ0, h5⟩
                | pub m cid' => cases hres
                | dead => cases hres
                | alias s1 j1 cid1 =>
                  simp only [resLd] at hres
                  split at hres
                  · rename_i ds' id' cid' hl'
                    split at hres
                    · rename_i hcc; subst hcc; cases hres
                      obtain ⟨k1, k2, k3⟩ := h5 (.inl ⟨_, _, hl'⟩)
                      exact ⟨hl', k1, k3, (hI.slot _).leaf _ _ _ _ _ hl' k3 k1 k2⟩
                    · cases hres
                  · split at hres <;> cases hres
                  · cases hres
              obtain ⟨r1, r2, r3, r4⟩ := hroot
              cases r4 with
              | nil hO => simp [Lgo.hd, L.int, L.list] at c1 c2; omega
              | @sl _ _ b len cap cs _ Vf Xf G hb hs2 hlc hcap hcc hr hdd hbG hO =>
                have c2' : ix < len := by simpa [Lgo.hd, L.int, L.list, rows_length] using c2
                have c1' : 0 ≤ ix := by simpa [Lgo.hd, L.int] using c1
                have hrun := run_indexAtT hT hu heok (b := b) (off := 0) (cap := cap) (k := k) c1' c2' w
                refine .inl ⟨.pointer (some ⟨b, 0 + ix.toNat * (Γ.tl e0).length, none⟩), w, ?_, ?_⟩
                · simp only [execOp, ho, h4, f1, Sem.run_bind, hrun, Result.andThen_ok, Sem.run_pure]
                · rw [hd]
                  refine hI.movePtr ht (e := .ep s' j id e0 0) rfl (fun _ => ⟨b, len, cap, ix.toNat, r2, r3, ?_, by omega, ?_⟩) (by rintro k' id' off' h; cases h) (by rintro s1 j1 id1 e1 off1 h; cases h; exact ⟨hne, ((hI.slot s').idO _ _ _ _ r1).1⟩)
                  · show [L.i _] = _
                    simp only [Lgo.hd, List.headD_cons, L.int]
                    congr 2; omega
                  · rw [Nat.zero_add, Nat.add_zero]
            · rename_i m
              cases htr
              obtain ⟨r, g1, rfl⟩ := den_op hden
              simp only [List.map_cons, List.map_nil, hrow, f2, Prim.run, Option.ite_none_right_eq_some] at g1
              obtain ⟨c1, c2⟩ := g1
              have hrd : Rd Γ.tl w (Γ.FP (XS none' E.get O B) m) (.sl e0) v l := by
                cases ld with
                | own ds' id' cid' => cases hres
                | pub m' cid' => cases hres; exact h5
                | dead => cases hres
                | alias s1 j1 cid1 =>
                  simp only [resLd] at hres
                  split at hres
                  · split at hres <;> cases hres
                  · rename_i m' cid' hl'
                    split at hres
                    · rename_i hcc; subst hcc; cases hres
                      obtain ⟨k1, k2, k3⟩ := h5 (.inr ⟨_, hl'⟩)
                      exact (hI.slot _).leaf _ _ _ _ _ hl' k3 k1 k2
                    · cases hres
                  · cases hres
              cases hrd with
              | nil => simp [Lgo.hd, L.list] at c2
              | @sl _ b off len cap cs e' fr Vf Xf hF hb hlc hcap hcc hr =>
                have c1' : 0 ≤ ix := by simpa [Lgo.hd, L.int] using c1
                have c2l : (rows Xf len (Γ.tl e0).length)[ix.toNat]? = some r := c2
                have hlt : ix.toNat < len := by have := (List.getElem?_eq_some_iff.1 c2l).1; rwa [rows_length] at this
                rw [rows_get hlt] at c2l
                cases c2l
                have hrun := run_indexAtT hT hu heok (b := b) (off := off) (cap := cap) (k := k) c1' (show ix < len by omega) w
                refine .inl ⟨.pointer (some ⟨b, off + ix.toNat * (Γ.tl e0).length, none⟩), w, ?_, ?_⟩
                · simp only [execOp, ho, h4, f1, Sem.run_bind, hrun, Result.andThen_ok, Sem.run_pure]
                · rw [hd]
                  refine hI.movePtr ht (e := .pep m e0 0) rfl ⟨b, off + ix.toNat * (Γ.tl e0).length, cs, e', fr, (List.range (Γ.tl e0).length).map (Vf ix.toNat), hb, hF, by rw [Nat.add_zero], by simp, by simp, ?_, ?_⟩ (by rintro k' id' off' h; cases h) (by rintro s1 j1 id1 e1 off1 h; cases h)
                  · intro j hj
                    rw [hcc _ _ hlt hj]
                    simp [hj]
                  · intro j τ v' x' a1 a2 a3
                    have hj := (List.getElem?_eq_some_iff.1 a1).1
                    simp [hj] at a2 a3
                    subst a2 a3
                    exact hr _ _ _ hlt a1
          · cases hs
        · cases hs
      | const c => cases hs
      | global g => cases hs
      | func f => cases hs
    · cases htr
  · cases htr

theorem trLoadP_snd (hT : TTOK Γ.P Γ.tt) (o : Oper) {t s : Nat} {ty : TypeId} {m : Nat} {e : TypeId} {off : Nat} (hd : o.dst = some t) (ho : o.op = .load ty (.tmp s)) (hk : (E.get (2 * s)).k = .pep m e off) {E' : SE} {c : Cmd}
    (htr : trLoadP Γ.tt Γ.N E t s ty m e off = some (E', c)) : Snd Γ E o E' c := by
  intro F n ρ ρ' a w hinv hden
  unfold trLoadP at htr
  dsimp only at htr
  split at htr
  · rename_i hc
    obtain ⟨ht, hok, hlvs⟩ := hc
    cases htr
    obtain ⟨r, g1, rfl⟩ := den_op hden
    obtain ⟨V, O, B, hI⟩ := hinv
    have htm := (hI.slot (2 * s)).tm s rfl
    rw [hk] at htm
    obtain ⟨b, base, cs, e', fr, us, h1, h2, h3, h4, h5, h6, h7⟩ := htm
    have hev : a.eval (.tmp s) = .pointer (some ⟨b, base + off, none⟩) := by simp only [Act.eval, Array.getD_eq_getD_getElem?, h3, Option.getD_some]
    have hbl := congrArg List.length hlvs
    simp only [List.length_take, List.length_drop] at hbl
    have htl : (Γ.tl e).length = (Γ.tt e).lv.length := rfl
    have hpos : 0 < (Γ.tt ty).lv.length := by obtain ⟨_, _, _, _, _, _, _, _, h⟩ := (hT ty hok).info; exact h
    have hld := run_loadVarT hT hok h1 (off := base + off) (us := (us.drop off).take (Γ.tt ty).lv.length) (by simp only [List.length_take, List.length_drop]; omega)
      (fun j hj => by
        simp only [List.length_take, List.length_drop] at hj
        rw [List.getElem?_take, if_pos (by omega), List.getElem?_drop, Nat.add_assoc]
        exact h6 (off + j) (by omega))
    simp only [List.map_cons, List.map_nil, Opd.get, Prim.run, Option.some.injEq] at g1
    subst g1
    refine .inl ⟨pack1 Γ.tt ty ((us.drop off).take (Γ.tt ty).lv.length), w, ?_, ?_⟩
    · simp only [execOp, ho, hev, Instr.loadAt, Instr.sureAddr, Sem.run_bind, Sem.run_pure, Result.andThen_ok, hld]
    · rw [hd]
      have hoc : ∀ v, v ∈ (us.drop off).take (Γ.tt ty).lv.length → v.oneCell' = true := by
        intro v hv
        obtain ⟨j, hj⟩ := List.getElem?_of_mem (List.mem_of_mem_drop (List.mem_of_mem_take hv))
        have hjl := (List.getElem?_eq_some_iff.1 hj).1
        exact (h7 j _ _ _ (List.getElem?_eq_getElem (by omega)) hj (List.getElem?_eq_getElem (by omega))).oc
      have := hI.setRead ht [ty] false (List.replicate (Γ.tt ty).lv.length (.pub m)) ((us.drop off).take (Γ.tt ty).lv.length) (((ρ (2 * s)).drop off).take (Γ.tt ty).lv.length) hoc
        (by simp only [List.length_take, List.length_drop, List.length_replicate]; omega) (by simp only [List.length_take, List.length_drop, List.length_replicate]; omega) (by simp)
        (by intro j ds hj; rw [List.getElem?_replicate] at hj; split at hj <;> cases hj)
        (by
          intro j nl τ v x k1 k2 k3 k4
          rw [List.getElem?_replicate] at k1
          split at k1
          · rename_i hjl
            cases k1
            rw [List.getElem?_take, if_pos hjl, List.getElem?_drop] at k3 k4
            have k2' : (Γ.tt ty).lv[j]? = some τ := by simpa using k2
            rw [← hlvs, List.getElem?_take, if_pos hjl, List.getElem?_drop] at k2'
            exact h7 (off + j) τ v x k2' k3 k4
          · cases k1)
      have hp : packs Γ.tt [ty] false ((us.drop off).take (Γ.tt ty).lv.length) = pack1 Γ.tt ty ((us.drop off).take (Γ.tt ty).lv.length) := by
        simp only [packs, Bool.false_eq_true, if_false, packL, List.headD_cons]
        rw [List.take_of_length_le (by simp only [List.length_take, List.length_drop]; omega)]
      rw [hp] at this
      exact this
  · cases htr

end

end Go.Lgo

namespace Go.Lgo
open Go

/-- The children from off on, n of them, held as published. -/
def dsPub (off n : Nat) : Nat → List Dsc → List Dsc
  | _, [] => []
  | j, d :: ds => (if off ≤ j ∧ j < off + n then .pub d.mask else d) :: dsPub off n (j + 1) ds

def dsNL (off : Nat) (ds : List Dsc) : Nat → Option (List NL)
  | 0 => some []
  | n + 1 => match ds.getD off (.pub 0), dsNL (off + 1) ds n with
    | .pub m, some l => some (.pub m :: l)
    | _, _ => none

theorem dsNL_spec {off n : Nat} {ds : List Dsc} {l : List NL} (h : dsNL off ds n = some l) : l.length = n ∧ ∀ j : Nat, j < n → ∃ m, ds.getD (off + j) (.pub 0) = .pub m ∧ l[j]? = some (.pub m) := by
  induction n generalizing off l with
  | zero => simp only [dsNL, Option.some.injEq] at h; subst h; simp
  | succ n ih =>
    simp only [dsNL] at h
    split at h
    · rename_i m l' h1 h2
      cases h
      obtain ⟨g1, g2⟩ := ih h2
      refine ⟨by simp [g1], ?_⟩
      intro j hj
      cases j with
      | zero => exact ⟨m, by simpa using h1, rfl⟩
      | succ j =>
        obtain ⟨m', k1, k2⟩ := g2 j (by omega)
        exact ⟨m', by rw [show off + (j + 1) = off + 1 + j by omega]; exact k1, by simpa using k2⟩
    · cases h

def trLoadE (tt : TypeId → TI) (N : Nat) (E : SE) (t s : Nat) (ty s' j id : Nat) (e : TypeId) (off : Nat) : TR :=
  let n := (tt ty).lv.length
  match (E.get s').lds[j]? with
  | some (.own ds id' cid) =>
    let ds' := dsPub off n 0 ds
    if t < N ∧ id = id' ∧ (tt ty).ok = true ∧ ((tt e).lv.drop off).take n = (tt ty).lv ∧ Dsc.leAll ds ds' = true then
      let E1 := E.put s' ⟨(E.get s').ver, (E.get s').k.setLds ((E.get s').lds.set j (.own ds' id' cid))⟩
      match dsNL off ds' n with
      | some nls => some (setVal E1 t [ty] false nls, .op (2 * t) (.elem j off n) [.v s' 0 (E.get s').lds.length, .v (2 * s) 0 1])
      | none => none
    else none
  | _ => none

section
variable {Γ : Ctx} {E : SE}

theorem trLoadE_snd (hT : TTOK Γ.P Γ.tt) (o : Oper) {t s : Nat} {ty : TypeId} {s' j id : Nat} {e : TypeId} {off : Nat} (hd : o.dst = some t) (ho : o.op = .load ty (.tmp s)) (hk : (E.get (2 * s)).k = .ep s' j id e off) {E' : SE} {c : Cmd}
    (htr : trLoadE Γ.tt Γ.N E t s ty s' j id e off = some (E', c)) : Snd Γ E o E' c := by
  intro F n ρ ρ' a w hinv hden
  unfold trLoadE at htr
  dsimp only at htr
  split at htr
  · rename_i ds id' cid hl
    split at htr
    · rename_i hc
      obtain ⟨ht, rfl, hok, hlvs, hle⟩ := hc
      split at htr
      · rename_i nls hnl
        cases htr
        obtain ⟨r, g1, rfl⟩ := den_op hden
        obtain ⟨V, O, B, hI⟩ := hinv
        obtain ⟨nl1, nl2⟩ := dsNL_spec hnl
        have hj := (List.getElem?_eq_some_iff.1 hl).1
        have hh := EK.holds_of_lt hj
        have hrl := hI.rowLen hh
        -- the address
        have htm := (hI.slot (2 * s)).tm s rfl
        rw [hk] at htm
        obtain ⟨b, len, cap, i, q1, q2, q3, q4, q5⟩ := htm ⟨ds, cid, hl⟩
        have hev : a.eval (.tmp s) = .pointer (some ⟨b, i * (Γ.tl e).length + off, none⟩) := by simp only [Act.eval, Array.getD_eq_getD_getElem?, q5, Option.getD_some]
        -- held for less
        obtain ⟨O', hI1⟩ := hI.less hl hle
        have hE1 : (E.put s' ⟨(E.get s').ver, (E.get s').k.setLds ((E.get s').lds.set j (.own (dsPub off (Γ.tt ty).lv.length 0 ds) id cid))⟩).get = SS.setLd E.get s' j (.own (dsPub off (Γ.tt ty).lv.length 0 ds) id cid) := SE.get_put _ _ _
        rw [← hE1] at hI1
        obtain ⟨E1, hE1d⟩ : ∃ E1 : SE, E1 = E.put s' ⟨(E.get s').ver, (E.get s').k.setLds ((E.get s').lds.set j (.own (dsPub off (Γ.tt ty).lv.length 0 ds) id cid))⟩ := ⟨_, rfl⟩
        rw [← hE1d] at hI1 ⊢
        have hl1 : (E1.get s').lds[j]? = some (.own (dsPub off (Γ.tt ty).lv.length 0 ds) id cid) := by
          rw [hE1d, SE.get_put, upd_same]
          show (EK.lds _)[j]? = _
          rw [EK.setLds_lds _ hh, List.getElem?_set_self hj]
        have hlv1 : (E1.get s').k.lv Γ.tt = (E.get s').k.lv Γ.tt := by
          rw [hE1d, SE.get_put, upd_same]; exact EK.setLds_lv _ _
        obtain ⟨l1, l2, l3⟩ := hI.lens hh
        have hxj : (ρ s')[j]? = some ((ρ s')[j]'(by omega)) := List.getElem?_eq_getElem (by omega)
        have hown : Own Γ.tl w (Γ.FP (XS none' E1.get O' B)) (.sl e) (.own (dsPub off (Γ.tt ty).lv.length 0 ds)) _ _ _ := (hI1.slot s').leaf j _ _ _ _ hl1 (by rw [hlv1]; exact q2) q1 hxj
        generalize hxx : (ρ s')[j]'(by omega) = xx at *
        cases hown with
        | @sl _ _ _ _ _ cs _ Vf Xf G hb hs2 hlc hcap hcc hr hdd hbG hO =>
        have hbl := congrArg List.length hlvs
        simp only [List.length_take, List.length_drop] at hbl
        have htl : (Γ.tl e).length = (Γ.tt e).lv.length := rfl
        have hpos : 0 < (Γ.tt ty).lv.length := by obtain ⟨_, _, _, _, _, _, _, _, h⟩ := (hT ty hok).info; exact h
        let us : List Value := (List.range (Γ.tt ty).lv.length).map fun c => Vf i (off + c)
        have hld := run_loadVarT hT hok hb (off := i * (Γ.tl e).length + off) (us := us) (by simp [us])
          (fun c hc => by
            simp only [us, List.length_map, List.length_range] at hc
            rw [Nat.add_assoc, hcc i (off + c) q4 (by omega)]
            simp [us, hc])
        have hgetD : (ρ s').getD j (.l []) = .l (rows Xf len (Γ.tl e).length) := by rw [List.getD_eq_getElem?_getD, hxj]; rfl
        have hrow : (Opd.v s' 0 (E.get s').lds.length).get ρ = ρ s' := by simp only [Opd.get, List.drop_zero]; exact List.take_of_length_le (by omega)
        have hidx : (Opd.v (2 * s) 0 1).get ρ = [.i i] := by simp [Opd.get, q3]
        simp only [List.map_cons, List.map_nil, hrow, hidx, Prim.run, hgetD, L.list, Lgo.hd, List.headD_cons, L.int, Int.toNat_natCast, rows_get q4, Option.map_some, Option.some.injEq] at g1
        refine .inl ⟨pack1 Γ.tt ty us, w, ?_, ?_⟩
        · simp only [execOp, ho, hev, Instr.loadAt, Instr.sureAddr, Sem.run_bind, Sem.run_pure, Result.andThen_ok, hld]
        · rw [hd]
          have hrget : ∀ c : Nat, c < (Γ.tt ty).lv.length → r[c]? = some (Xf i (off + c)) := by
            intro c hc
            rw [← g1, List.getElem?_take, if_pos hc, List.getElem?_drop]
            simp only [List.getElem?_map]
            rw [List.getElem?_range (by omega)]; rfl
          have hrlen : r.length = (Γ.tt ty).lv.length := by rw [← g1]; simp only [List.length_take, List.length_drop, List.length_map, List.length_range]; omega
          have hτ : ∀ c : Nat, c < (Γ.tt ty).lv.length → (Γ.tl e)[off + c]? = (Γ.tt ty).lv[c]? := by
            intro c hc
            rw [← hlvs, List.getElem?_take, if_pos hc, List.getElem?_drop]; rfl
          have hrd : ∀ (c m : Nat) τ, c < (Γ.tt ty).lv.length → (Γ.tt ty).lv[c]? = some τ → (dsPub off (Γ.tt ty).lv.length 0 ds).getD (off + c) (.pub 0) = .pub m → Rd Γ.tl w (Γ.FP (XS none' E1.get O' B) m) τ (Vf i (off + c)) (Xf i (off + c)) := by
            intro c m τ hc hcτ hm
            have := hr i (off + c) τ q4 (by rw [hτ c hc]; exact hcτ)
            rw [hm] at this
            cases this with
            | pub h _ => exact h
          have hoc : ∀ v, v ∈ us → v.oneCell' = true := by
            intro v hv
            simp only [us, List.mem_map, List.mem_range] at hv
            obtain ⟨c, hc, rfl⟩ := hv
            obtain ⟨m, k1, _⟩ := nl2 c hc
            exact (hrd c m _ hc (List.getElem?_eq_getElem hc) k1).oc
          have := hI1.setRead ht [ty] false nls us r hoc (by simp [us, nl1]) (by omega) (by simp [nl1])
            (by
              intro c ds0 hcc0
              have hc := (List.getElem?_eq_some_iff.1 hcc0).1
              obtain ⟨m, _, k2⟩ := nl2 c (by omega)
              rw [hcc0] at k2; cases k2)
            (by
              intro c nl τ v x k1 k2 k3 k4
              have hc : c < (Γ.tt ty).lv.length := by have := (List.getElem?_eq_some_iff.1 k1).1; omega
              obtain ⟨m, k5, k6⟩ := nl2 c hc
              rw [k1] at k6; cases k6
              rw [hrget c hc] at k4
              simp only [us, List.getElem?_map, List.getElem?_range hc, Option.map_some, Option.some.injEq] at k3
              cases k4
              subst k3
              exact hrd c m τ hc (by simpa using k2) k5)
          have hp : packs Γ.tt [ty] false us = pack1 Γ.tt ty us := by
            simp only [packs, Bool.false_eq_true, if_false, packL, List.headD_cons]
            rw [List.take_of_length_le (by simp [us])]
          rw [hp] at this
          exact this
      · cases htr
    · cases htr
  · cases htr

end

end Go.Lgo

namespace Go.Lgo
open Go

def rdMasks (E : SE) : List LD → Option (List Nat)
  | [] => some []
  | ld :: lds => match rdMask E ld, rdMasks E lds with
    | some m, some ms => some (m :: ms)
    | _, _ => none

theorem rdMasks_spec {E : SE} {lds : List LD} {ms : List Nat} (h : rdMasks E lds = some ms) : ms.length = lds.length ∧ ∀ (j : Nat) m, ms[j]? = some m → ∃ ld, lds[j]? = some ld ∧ rdMask E ld = some m := by
  induction lds generalizing ms with
  | nil => simp only [rdMasks, Option.some.injEq] at h; subst h; simp
  | cons ld lds ih =>
    simp only [rdMasks] at h
    split at h
    · rename_i m ms' h1 h2
      cases h
      obtain ⟨g1, g2⟩ := ih h2
      refine ⟨by simp [g1], fun j m' hm => ?_⟩
      cases j with
      | zero => simp only [List.getElem?_cons_zero, Option.some.injEq] at hm; subst hm; exact ⟨ld, rfl, h1⟩
      | succ j => simpa using g2 j m' (by simpa using hm)
    · cases h

theorem cstCell_rd {tt : TypeId → TI} {tl : TL} {w : World} {F : BSet} {τ : Leaf} {v : Value} {l : L} {n : NL} (h : cstCell tt τ v = some (l, n)) : Rd tl w F τ v l := by
  unfold cstCell at h
  split at h
  · split at h
    · rename_i e; subst e; cases h; exact .int
    · cases h
  · cases h; exact .bool
  · cases h; exact .str
  · cases h; exact .nil
  · cases h

/-- A row operand, published first: the masks of its leaves. -/
def rdRow (tt : TypeId → TI) (E : SE) (lv : List Leaf) (agg : Bool) : Operand → Option (SE × List Nat × Opd)
  | .tmp s => match (E.get (2 * s)).k with
    | .val [ty] false lds =>
      if (tt ty).lv = lv ∧ (tt ty).agg = agg then
        let E1 := pubSlot E (2 * s) lds.length
        match (E1.get (2 * s)).k with
        | .val [ty'] false lds' => if (tt ty').lv = lv ∧ (tt ty').agg = agg then (rdMasks E1 lds').map fun ms => (E1, ms, .v (2 * s) 0 lv.length) else none
        | _ => none
      else none
    | _ => none
  | .const v => if agg = isAggV v then (cstCells tt lv v.cells.toList).map fun p => (E, lv.map fun _ => 0, .k p.1) else none
  | _ => none

section
variable {Γ : Ctx} {S : BSet} {E : SE} {ρ : Env} {a : Act} {w w' : World} {V : Nat → List Value} {O : Nat → Nat → BSet} {B : Nat → Nat}

theorem rdRow_ok' (h : InvG Γ S E.get ρ a w V O B) {lv : List Leaf} {agg : Bool} {x : Operand} {E1 : SE} {ms : List Nat} {od : Opd} (hx : rdRow Γ.tt E lv agg x = some (E1, ms, od)) :
    ∃ O1, InvG Γ S E1.get ρ a w V O1 B ∧ (∀ c, XS S E1.get O1 B c → XS S E.get O B c) ∧ ∃ vs : List Value, (a.eval x = if agg then .agg vs.toArray else vs.headD undef) ∧ vs.length = lv.length ∧ ms.length = lv.length ∧ (od.get ρ).length = lv.length ∧ (∀ v, v ∈ vs → v.oneCell' = true) ∧
      ∀ (j : Nat) m τ v x, ms[j]? = some m → lv[j]? = some τ → vs[j]? = some v → (od.get ρ)[j]? = some x → Rd Γ.tl w (Γ.FP (XS S E1.get O1 B) m) τ v x := by
  cases x with
  | tmp s =>
    simp only [rdRow] at hx
    split at hx
    · rename_i ty lds he
      split at hx
      · split at hx
        · rename_i ty' lds' he'
          split at hx
          · rename_i hc
            obtain ⟨rfl, rfl⟩ := hc
            simp only [Option.map_eq_some_iff, Prod.mk.injEq] at hx
            obtain ⟨ms', hms, rfl, rfl, rfl⟩ := hx
            obtain ⟨O1, h1, hsub⟩ := h.pubSlot (2 * s) lds.length
            refine ⟨O1, h1, hsub, V (2 * s), ?_⟩
            have hh : ((pubSlot E (2 * s) lds.length).get (2 * s)).k.holds = true := by rw [he']; rfl
            obtain ⟨e1, e2, e3⟩ := h1.lens hh
            have hlds : ((pubSlot E (2 * s) lds.length).get (2 * s)).lds = lds' := by simp [Ent.lds, he', EK.lds]
            have hlv : ((pubSlot E (2 * s) lds.length).get (2 * s)).k.lv Γ.tt = (Γ.tt ty').lv := by rw [he']; simp [EK.lv]
            rw [hlv] at e1 e2 e3
            rw [hlds] at e3
            obtain ⟨m1, m2⟩ := rdMasks_spec hms
            have hget : (Opd.v (2 * s) 0 (Γ.tt ty').lv.length).get ρ = ρ (2 * s) := by simp only [Opd.get, List.drop_zero]; exact List.take_of_length_le (by omega)
            rw [hget]
            refine ⟨?_, e1, by omega, e2, (h1.slot (2 * s)).oc, ?_⟩
            · rw [(h1.tmpVal he').2]; rfl
            · intro j m τ v x k1 k2 k3 k4
              obtain ⟨ld, l1, l2⟩ := m2 j m k1
              exact h1.rdMask (by rw [hlds]; exact l1) l2 (by rw [hlv]; exact k2) k3 k4
          · cases hx
        · cases hx
      · cases hx
    · cases hx
  | const v =>
    simp only [rdRow, Option.ite_none_right_eq_some, Option.map_eq_some_iff, Prod.mk.injEq] at hx
    obtain ⟨hag, ⟨ls, ns⟩, hcs, rfl, rfl, rfl⟩ := hx
    obtain ⟨c1, c2, c3, c4⟩ := cstCells_spec hcs
    refine ⟨O, h, fun c hc => hc, v.cells.toList, ?_, c1, by simp, c2, cstCells_oc hcs, ?_⟩
    · cases v <;> simp_all [isAggV, Act.eval, Value.cells]
    · intro j m τ u l k1 k2 k3 k4
      have hj := (List.getElem?_eq_some_iff.1 k2).1
      have hc := c4 j τ u l (ns[j]'(by omega)) k2 k3 k4 (by simp)
      exact cstCell_rd hc
  | global g => cases hx
  | func f => cases hx

theorem rdRow_ok (h : InvG Γ S E.get ρ a w V O B) {lv : List Leaf} {agg : Bool} {x : Operand} {E1 : SE} {ms : List Nat} {od : Opd} (hx : rdRow Γ.tt E lv agg x = some (E1, ms, od)) :
    ∃ O1, InvG Γ S E1.get ρ a w V O1 B ∧ ∃ vs : List Value, (a.eval x = if agg then .agg vs.toArray else vs.headD undef) ∧ vs.length = lv.length ∧ ms.length = lv.length ∧ (od.get ρ).length = lv.length ∧ (∀ v, v ∈ vs → v.oneCell' = true) ∧
      ∀ (j : Nat) m τ v x, ms[j]? = some m → lv[j]? = some τ → vs[j]? = some v → (od.get ρ)[j]? = some x → Rd Γ.tl w (Γ.FP (XS S E1.get O1 B) m) τ v x := by
  obtain ⟨O1, h1, _, h2⟩ := rdRow_ok' h hx
  exact ⟨O1, h1, h2⟩

/-- **The content of an owned leaf is written.** -/
theorem InvG.content {E : SS} (h : InvG Γ S E ρ a w V O B) {k j : Nat} {ds ds' : List Dsc} {id cid : Nat} (hl : (E k).lds[j]? = some (.own ds id cid)) (x' : L)
    (hos : w'.os = w.os) (htape : w'.tape = w.tape) (hout : w'.output = w.output) (hsize : w.heap.size ≤ w'.heap.size)
    (hw : ∀ c o, w.heap[c]? = some o → ¬ O k j c → w'.heap[c]? = some o)
    (hown : ∀ τ v, ((E k).k.lv Γ.tt)[j]? = some τ → (V k)[j]? = some v → Own Γ.tl w' (Γ.FP (XS S E O B)) τ (.own ds') v x' (O k j)) :
    InvG Γ S (upd E k ⟨(E k).ver + 1, (E k).k.setLds ((E k).lds.set j (.own ds' id ((E k).ver + 1)))⟩) (upd ρ k ((ρ k).set j x')) a w' V O B := by
  have hj := (List.getElem?_eq_some_iff.1 hl).1
  have hh := EK.holds_of_lt hj
  have sl := h.slot k
  have e1 := sl.lenT hh; have e2 := sl.lenV hh; have e3 := sl.lenR hh
  let lds' := (E k).lds.set j (.own ds' id ((E k).ver + 1))
  let e' : Ent := ⟨(E k).ver + 1, (E k).k.setLds lds'⟩
  have hlds : e'.k.lds = lds' := EK.setLds_lds lds' hh
  have hlv : e'.k.lv Γ.tt = (E k).k.lv Γ.tt := EK.setLds_lv lds' Γ.tt
  have hldl : e'.lds.length = (E k).lds.length := by rw [show e'.lds = lds' from hlds]; exact List.length_set
  have hgj : lds'[j]? = some (.own ds' id ((E k).ver + 1)) := List.getElem?_set_self hj
  have hgn : ∀ j' : Nat, j' ≠ j → lds'[j']? = (E k).lds[j']? := fun j' hne => List.getElem?_set_ne (Ne.symm hne)
  have hB : ∀ id, e'.k.isBox id ↔ (E k).k.isBox id := fun id => EK.setLds_box lds' id
  have hfit : ∀ j' cid', cid' ≤ (E k).ver → e'.k.fits j' cid' → (E k).k.fits j' cid' ∧ j' ≠ j := by
    rintro j' cid' hle hf
    by_cases hjj : j' = j
    · subst hjj
      rcases hf with ⟨ds2, id2, hf⟩ | ⟨m, hf⟩
      · rw [hlds, hgj] at hf; cases hf; omega
      · rw [hlds, hgj] at hf; cases hf
    · refine ⟨?_, hjj⟩
      rcases hf with ⟨ds2, id2, hf⟩ | ⟨m, hf⟩
      · rw [hlds, hgn _ hjj] at hf; exact .inl ⟨_, _, hf⟩
      · rw [hlds, hgn _ hjj] at hf; exact .inr ⟨_, hf⟩
  have hhead : ∀ j' id', e'.k.heads j' id' → (E k).k.heads j' id' := by
    rintro j' id' ⟨ds2, cid2, hf⟩
    by_cases hjj : j' = j
    · subst hjj
      rw [hlds, hgj] at hf; cases hf; exact ⟨_, _, hl⟩
    · rw [hlds, hgn _ hjj] at hf; exact ⟨_, _, hf⟩
  have hXS : XS S (upd E k e') O B = XS S E O B := by
    funext c
    apply propext
    unfold XS
    refine or_congr_right (or_congr_right ?_)
    constructor
    · rintro ⟨k', id', h1, h2⟩
      by_cases hk : k' = k
      · subst hk; rw [upd_same] at h1; exact ⟨_, id', (hB id').1 h1, h2⟩
      · rw [upd_ne _ _ hk] at h1; exact ⟨_, _, h1, h2⟩
    · rintro ⟨k', id', h1, h2⟩
      by_cases hk : k' = k
      · subst hk; exact ⟨_, id', by rw [upd_same]; exact (hB id').2 h1, h2⟩
      · exact ⟨_, _, by rw [upd_ne _ _ hk]; exact h1, h2⟩
  have main := h.write k (S' := S) (a' := a) (w' := w') e' (V k) ((ρ k).set j x') (O k) (B k) (Nat.le_succ _)
    (fun j' cid' hle hf => ⟨(hfit j' cid' hle hf).1, rfl, by rw [List.getElem?_set_ne (Ne.symm (hfit j' cid' hle hf).2)], by rw [hlv]⟩)
    (fun j' id' _ hf => ⟨hhead j' id' hf, rfl, by rw [hlv]⟩) (fun id' _ hb => ⟨(hB id').1 hb, rfl⟩) (fun _ _ => rfl) h.defers rfl hos htape hout hsize
    (fun c o ho hm => hw c o ho fun hc => hm (.inr (.inl ⟨j, hc⟩))) (fun c hc => .inl hc) (fun j' c hc => .inr (.inl ⟨j', hc⟩)) (fun id' hb => .inr (.inr (.inl ⟨⟨id', (hB id').1 hb⟩, rfl⟩)))
    (fun j1 j2 c h1 h2 => (h.disj _ _ _ _ _ h1 h2).2) (fun c j' hs => h.sown c k j' hs) (fun c id' hs hb => h.sbox c k id' hs ((hB id').1 hb)) (fun id' j' hb => h.bown k id' k j' ((hB id').1 hb)) h.sfr ?_
  · rw [upd_self, upd_self, upd_self] at main
    exact main
  rw [upd_self, upd_self, upd_self, hXS]
  have hX : ∀ c o, ¬ XS S E O B c → w.heap[c]? = some o → w'.heap[c]? = some o := fun c o hc ho => hw c o ho fun hx => hc (.inr (.inl ⟨_, _, hx⟩))
  constructor
  · intro _; rw [upd_same, hldl]; exact e2
  · intro _; rw [upd_same, upd_same, hldl, List.length_set]; exact e3
  · intro _; rw [upd_same, hlv, hldl]; exact e1
  · intro t ht
    have h0 := sl.tm t ht
    have hup : (upd E k e' k).k = (E k).k.setLds lds' := by rw [upd_same]
    rw [hup]
    cases hek : (E k).k with
    | val ts tup lds => rw [hek] at h0; exact h0
    | box => trivial
    | dead => rw [hek] at hh; cases hh
    | bp => rw [hek] at hh; cases hh
    | ep => rw [hek] at hh; cases hh
    | pep => rw [hek] at hh; cases hh
  · intro ty id' lds hk
    rw [upd_same] at hk
    cases hek : (E k).k with
    | box ty2 id2 lds2 =>
      simp only [e', hek, EK.setLds] at hk
      cases hk
      obtain ⟨b1, b2⟩ := sl.bx _ _ _ hek
      exact ⟨hw _ _ b1 (h.bown k id' k j ⟨_, _, hek⟩), b2⟩
    | val => simp only [e', hek, EK.setLds] at hk; cases hk
    | dead => rw [hek] at hh; cases hh
    | bp => rw [hek] at hh; cases hh
    | ep => rw [hek] at hh; cases hh
    | pep => rw [hek] at hh; cases hh
  · intro j' ld τ v x h1 h2 h3 h4
    rw [upd_same] at h1 h2 h4
    rw [hlv] at h2
    rw [show e'.lds = lds' from hlds] at h1
    by_cases hjj : j' = j
    · subst hjj
      rw [hgj] at h1; cases h1
      rw [List.getElem?_set_self (by omega)] at h4; cases h4
      exact hown τ v h2 h3
    · rw [hgn _ hjj] at h1
      rw [List.getElem?_set_ne (Ne.symm hjj)] at h4
      have h0 := sl.leaf j' ld τ v x h1 h2 h3 h4
      cases ld with
      | dead => trivial
      | pub m c1 => exact Rd.mono h0 fun b o hb ho => ⟨hX b o hb.1 ho, hb⟩
      | own d1 i1 c1 => exact Own.mono h0 (fun m b o hb ho => ⟨hX b o hb.1 ho, hb⟩) fun b o hb ho => hw b o ho fun hx => hjj (h.disj _ _ _ _ _ hb hx).2
      | alias s j2 c1 =>
        intro hf
        have hle := sl.idA _ _ _ _ h1
        by_cases hs : s = k
        · subst hs
          rw [upd_same] at hf
          obtain ⟨f1, f2⟩ := hfit j2 c1 hle hf
          obtain ⟨g1, g2, g3⟩ := h0 f1
          exact ⟨g1, by rw [upd_same, List.getElem?_set_ne (Ne.symm f2)]; exact g2, by rw [upd_same, hlv]; exact g3⟩
        · rw [upd_ne _ _ hs] at hf
          obtain ⟨g1, g2, g3⟩ := h0 hf
          exact ⟨g1, by rw [upd_ne _ _ hs]; exact g2, by rw [upd_ne _ _ hs]; exact g3⟩
  · intro j' c hc
    rw [upd_same]
    obtain ⟨d1, i1, c1, g⟩ := sl.own j' c hc
    by_cases hjj : j' = j
    · subst hjj; exact ⟨_, _, _, by rw [show e'.lds = lds' from hlds]; exact hgj⟩
    · exact ⟨d1, i1, c1, by rw [show e'.lds = lds' from hlds, hgn _ hjj]; exact g⟩
  · exact sl.fresh
  · intro j' d1 i1 c1 hg
    rw [upd_same] at hg ⊢
    rw [show e'.lds = lds' from hlds] at hg
    have hid := (sl.idO _ _ _ _ hl).1
    by_cases hjj : j' = j
    · subst hjj; rw [hgj] at hg; cases hg; exact ⟨Nat.le_succ_of_le hid, Nat.le_refl _⟩
    · rw [hgn _ hjj] at hg
      obtain ⟨g1, g2⟩ := sl.idO _ _ _ _ hg
      exact ⟨Nat.le_succ_of_le g1, Nat.le_succ_of_le g2⟩
  · intro j' m c1 hg
    rw [upd_same] at hg ⊢
    rw [show e'.lds = lds' from hlds] at hg
    by_cases hjj : j' = j
    · subst hjj; rw [hgj] at hg; cases hg
    · rw [hgn _ hjj] at hg
      exact Nat.le_succ_of_le (sl.idP _ _ _ hg)
  · intro j' s j2 c1 hg
    rw [upd_same] at hg
    rw [show e'.lds = lds' from hlds] at hg
    by_cases hjj : j' = j
    · subst hjj; rw [hgj] at hg; cases hg
    · rw [hgn _ hjj] at hg
      have := sl.idA _ _ _ _ hg
      by_cases hs : s = k
      · subst hs; rw [upd_same]; exact Nat.le_succ_of_le this
      · rw [upd_ne _ _ hs]; exact this
  · intro ty id' lds hg
    rw [upd_same] at hg ⊢
    exact Nat.le_succ_of_le (by
      obtain ⟨ty2, lds2, h2⟩ := (hB id').1 ⟨ty, lds, hg⟩
      exact sl.idB _ _ _ h2)
  · intro k' id' off hg
    rw [upd_same] at hg
    cases hek : (E k).k <;> rw [hek] at hh <;> first | (cases hh; done) | (simp only [e', hek, EK.setLds] at hg; cases hg)
  · intro s j2 id' el off hg
    rw [upd_same] at hg
    cases hek : (E k).k <;> rw [hek] at hh <;> first | (cases hh; done) | (simp only [e', hek, EK.setLds] at hg; cases hg)
  · exact sl.oc

end

end Go.Lgo

namespace Go.Lgo
open Go

/-- The children from off on, held as published, with what is stored. -/
def dsSt (off : Nat) (ms : List Nat) : Nat → List Dsc → List Dsc
  | _, [] => []
  | j, d :: ds => (if off ≤ j ∧ j < off + ms.length then .pub (d.mask ||| ms.getD (j - off) 0) else d) :: dsSt off ms (j + 1) ds

theorem dsSt_get (off : Nat) (ms : List Nat) (j0 : Nat) (ds : List Dsc) (j : Nat) : (dsSt off ms j0 ds)[j]? = (ds[j]?).map fun d => if off ≤ j0 + j ∧ j0 + j < off + ms.length then .pub (d.mask ||| ms.getD (j0 + j - off) 0) else d := by
  induction ds generalizing j0 j with
  | nil => rfl
  | cons d ds ih =>
    cases j with
    | zero => rfl
    | succ j =>
      simp only [dsSt, List.getElem?_cons_succ, ih]
      rw [show j0 + 1 + j = j0 + (j + 1) by omega]

theorem setLds_setLds (e : EK) (l1 l2 : List LD) : (e.setLds l1).setLds l2 = e.setLds l2 := by cases e <;> rfl

def trStoreE (tt : TypeId → TI) (E : SE) (s : Nat) (ty : TypeId) (x : Operand) : TR :=
  match rdRow tt E (tt ty).lv (tt ty).agg x with
  | some (E1, ms, od) =>
    match (E1.get (2 * s)).k with
    | .ep s' j id e off =>
      match (E1.get s').lds[j]? with
      | some (.own ds id' _) =>
        let ds' := dsSt off ms 0 ds
        if id = id' ∧ (tt ty).ok = true ∧ ((tt e).lv.drop off).take (tt ty).lv.length = (tt ty).lv ∧ off + ms.length ≤ ds.length ∧ Dsc.leAll ds ds' = true then
          some (E1.put s' ⟨(E1.get s').ver + 1, (E1.get s').k.setLds ((E1.get s').lds.set j (.own ds' id ((E1.get s').ver + 1)))⟩, .op s' (.setel j off) [.v s' 0 (E1.get s').lds.length, .v (2 * s) 0 1, od])
        else none
      | _ => none
    | _ => none
  | none => none

theorem rows_set {X : Nat → Nat → L} {m n i off : Nat} {new : Row} (hi : i < m) (ho : off + new.length ≤ n) :
    (rows X m n).set i (splice ((List.range n).map (X i)) new off) = rows (fun i' c => if i' = i ∧ off ≤ c ∧ c < off + new.length then new.getD (c - off) (.i 0) else X i' c) m n := by
  apply List.ext_getElem?
  intro p
  by_cases hp : p < m
  · by_cases hpi : p = i
    · subst hpi
      rw [List.getElem?_set_self (by rw [rows_length]; exact hi), rows_get hp]
      congr 1
      apply List.ext_getElem?
      intro c
      unfold splice
      rw [splice_get _ _ _ (by simpa using ho)]
      by_cases hc : c < n
      · simp only [List.getElem?_map, List.getElem?_range hc, Option.map_some, true_and]
        by_cases h1 : c < off
        · rw [if_pos h1, if_neg (by omega)]
        · rw [if_neg h1]
          by_cases h2 : c < off + new.length
          · rw [if_pos h2, if_pos (by omega)]
            rw [List.getD_eq_getElem?_getD, List.getElem?_eq_getElem (by omega : c - off < new.length)]; rfl
          · rw [if_neg h2, if_neg (by omega)]
      · rw [if_neg (by omega), if_neg (by omega)]
        simp only [List.getElem?_map]
        rw [List.getElem?_eq_none (by simpa using hc)]; rfl
    · rw [List.getElem?_set_ne (Ne.symm hpi), rows_get hp, rows_get hp]
      congr 1
      apply List.map_congr_left
      intro c _
      rw [if_neg (by intro h; exact hpi h.1)]
  · rw [List.getElem?_eq_none (by rw [List.length_set, rows_length]; omega), List.getElem?_eq_none (by rw [rows_length]; omega)]

section
variable {Γ : Ctx} {E : SE}

theorem trStoreE_snd (hT : TTOK Γ.P Γ.tt) (o : Oper) {s : Nat} {ty : TypeId} {x : Operand} (hd : o.dst = none) (ho : o.op = .store ty (.tmp s) x) {E' : SE} {c : Cmd}
    (htr : trStoreE Γ.tt E s ty x = some (E', c)) : Snd Γ E o E' c := by
  intro F n ρ ρ' a w hinv hden
  unfold trStoreE at htr
  split at htr
  · rename_i E1 ms od hx
    split at htr
    · rename_i s' j id e off hk
      split at htr
      · rename_i ds id' cid hl
        dsimp only at htr
        split at htr
        · rename_i hc
          obtain ⟨rfl, hok, hlvs, hdl, hle⟩ := hc
          cases htr
          obtain ⟨r, g1, rfl⟩ := den_op hden
          obtain ⟨V, O, B, hI0⟩ := hinv
          obtain ⟨O1, hI, us, e1, e2, e3, e4, e5, e6⟩ := rdRow_ok hI0 hx
          have hj := (List.getElem?_eq_some_iff.1 hl).1
          have hh := EK.holds_of_lt hj
          have hrl := hI.rowLen hh
          obtain ⟨l1, l2, l3⟩ := hI.lens hh
          -- the address
          have htm := (hI.slot (2 * s)).tm s rfl
          rw [hk] at htm
          obtain ⟨b, len, cap, i, q1, q2, q3, q4, q5⟩ := htm ⟨ds, cid, hl⟩
          have hev : a.eval (.tmp s) = .pointer (some ⟨b, i * (Γ.tl e).length + off, none⟩) := by simp only [Act.eval, Array.getD_eq_getD_getElem?, q5, Option.getD_some]
          -- held for less
          obtain ⟨O2, hI1, hsub⟩ := hI.less' hl hle
          obtain ⟨E2, hE2⟩ : ∃ E2 : SS, E2 = SS.setLd E1.get s' j (.own (dsSt off ms 0 ds) id cid) := ⟨_, rfl⟩
          rw [← hE2] at hI1
          have hk2 : (E2 s').k = (E1.get s').k.setLds ((E1.get s').lds.set j (.own (dsSt off ms 0 ds) id cid)) := by rw [hE2]; unfold SS.setLd; rw [upd_same]
          have hv2 : (E2 s').ver = (E1.get s').ver := by rw [hE2]; unfold SS.setLd; rw [upd_same]
          have hlds2 : (E2 s').lds = (E1.get s').lds.set j (.own (dsSt off ms 0 ds) id cid) := by
            show (E2 s').k.lds = _
            rw [hk2, EK.setLds_lds _ hh]
          have hl2 : (E2 s').lds[j]? = some (.own (dsSt off ms 0 ds) id cid) := by rw [hlds2, List.getElem?_set_self hj]
          have hlv2 : (E2 s').k.lv Γ.tt = (E1.get s').k.lv Γ.tt := by rw [hk2]; exact EK.setLds_lv _ _
          have hxj : (ρ s')[j]? = some ((ρ s')[j]'(by omega)) := List.getElem?_eq_getElem (by omega)
          have hown : Own Γ.tl w (Γ.FP (XS none' E2 O2 B)) (.sl e) (.own (dsSt off ms 0 ds)) _ _ _ := (hI1.slot s').leaf j _ _ _ _ hl2 (by rw [hlv2]; exact q2) q1 hxj
          -- what is stored may be read still
          have hX2 : ∀ c, XS none' E2 O2 B c → XS none' E1.get O1 B c := by
            rintro c (hs | ⟨k', j', hc⟩ | ⟨k', id', hc, h2⟩)
            · exact .inl hs
            · exact .inr (.inl ⟨_, _, hsub _ _ _ hc⟩)
            · refine .inr (.inr ⟨k', id', ?_, h2⟩)
              by_cases hkk : k' = s'
              · subst hkk; rw [hk2] at hc; exact (EK.setLds_box _ _).1 hc
              · rw [hE2, SS.setLd_other _ hkk] at hc; exact hc
          generalize hO2 : O2 s' j = Oj at hown
          generalize hxx : (ρ s')[j]'(by omega) = xx at *
          cases hown with
          | @sl _ _ _ _ _ cs _ Vf Xf G hb hs2 hlc hcap hcc hr hdd hbG hO =>
          have hbl := congrArg List.length hlvs
          simp only [List.length_take, List.length_drop] at hbl
          have htl : (Γ.tl e).length = (Γ.tt e).lv.length := rfl
          have hpos : 0 < (Γ.tt ty).lv.length := by obtain ⟨_, _, _, _, _, _, _, _, h⟩ := (hT ty hok).info; exact h
          have hmul : (i + 1) * (Γ.tl e).length ≤ cap * (Γ.tl e).length := Nat.mul_le_mul_right _ (by omega)
          rw [Nat.succ_mul] at hmul
          have hfitc : i * (Γ.tl e).length + off + us.length ≤ cs.size := by omega
          have hst := run_storeCells_at Γ.P b (i * (Γ.tl e).length + off) e us 0 cs w hb (by omega) e5
          simp only [Nat.add_zero] at hst
          obtain ⟨cs', hcs'⟩ : ∃ cs' : Array Value, cs' = (cs.toList.take (i * (Γ.tl e).length + off) ++ us ++ cs.toList.drop (i * (Γ.tl e).length + off + us.length)).toArray := ⟨_, rfl⟩
          rw [← hcs'] at hst
          have hsz : cs'.size = cs.size := by rw [hcs', List.size_toArray, splice_length _ _ _ (by simpa using hfitc)]; simp
          have hcg : ∀ p : Nat, cs'[p]? = if p < i * (Γ.tl e).length + off then cs[p]? else if p < i * (Γ.tl e).length + off + us.length then us[p - (i * (Γ.tl e).length + off)]? else cs[p]? := by
            intro p
            rw [hcs', List.getElem?_toArray, splice_get _ _ _ (by simpa using hfitc)]
            simp only [Array.getElem?_toList]
          have hgetD : (ρ s').getD j (.l []) = .l (rows Xf len (Γ.tl e).length) := by rw [List.getD_eq_getElem?_getD, hxj]; rfl
          have hrow : (Opd.v s' 0 (E1.get s').lds.length).get ρ = ρ s' := by simp only [Opd.get, List.drop_zero]; exact List.take_of_length_le (by omega)
          have hidx : (Opd.v (2 * s) 0 1).get ρ = [.i i] := by simp [Opd.get, q3]
          simp only [List.map_cons, List.map_nil, hrow, hidx, Prim.run, hgetD, L.list, Lgo.hd, List.headD_cons, L.int, Int.toNat_natCast, rows_get q4, Option.map_some, Option.some.injEq] at g1
          rw [rows_set q4 (by omega)] at g1
          have hbO : O2 s' j b := by rw [hO2]; exact (hO _).2 (.inl rfl)
          have hbX : XS none' E2 O2 B b := .inr (.inl ⟨_, _, hbO⟩)
          have hwo : ∀ c o, w.heap[c]? = some o → ¬ O2 s' j c → (w.setRow b cs').heap[c]? = some o := by
            intro c o hco hc
            rw [setRow_other w _ _ _ (fun e => by subst e; exact hc hbO)]; exact hco
          have hnb : ∀ c o, c ≠ b → w.heap[c]? = some o → (w.setRow b cs').heap[c]? = some o := by
            intro c o hc hco
            rw [setRow_other w _ _ _ hc]; exact hco
          -- masks of the old state hold in the new
          have hnew : ∀ (c m : Nat) τ, ms[c]? = some m → (Γ.tt ty).lv[c]? = some τ → ∀ v y, us[c]? = some v → (od.get ρ)[c]? = some y → ∀ M, maskSub m M = true → Rd Γ.tl (w.setRow b cs') (Γ.FP (XS none' E2 O2 B) M) τ v y := by
            intro c m τ k1 k2 v y k3 k4 M hM
            have h0 := e6 c m τ v y k1 k2 k3 k4
            refine h0.mono fun b' o hb' ho' => ?_
            have hx2 : ¬ XS none' E2 O2 B b' := fun hx => hb'.1 (hX2 b' hx)
            exact ⟨hnb b' o (fun e => by subst e; exact hx2 hbX) ho', ⟨hx2, (Γ.grows _ _ _ _ hM hb').2⟩⟩
          have hrl' : (od.get ρ).length = us.length := by omega
          have main := hI1.content (w' := w.setRow b cs') (ds' := dsSt off ms 0 ds) hl2 (.l (rows (fun i' c => if i' = i ∧ off ≤ c ∧ c < off + (od.get ρ).length then (od.get ρ).getD (c - off) (.i 0) else Xf i' c) len (Γ.tl e).length)) rfl rfl rfl (by simp [World.setRow]) hwo
            (by
              intro τ v k1 k2
              rw [hlv2, q2] at k1; cases k1
              rw [q1] at k2; cases k2
              rw [hO2]
              refine Own.sl (cs := cs') (fun i' c => if i' = i ∧ off ≤ c ∧ c < off + us.length then us.getD (c - off) (.bool false) else Vf i' c) _ G (setRow_heap w _ _ _ _ _ hb) (by rw [hsz]; exact hs2) hlc hcap ?_ ?_ hdd hbG hO
              · intro i' c hi' hc
                rw [hcg]
                by_cases hii : i' = i
                · subst hii
                  by_cases h1 : c < off
                  · rw [if_pos (by omega), if_neg (by omega)]; exact hcc _ _ hi' hc
                  · by_cases h2 : c < off + us.length
                    · rw [if_neg (by omega), if_pos (by omega), if_pos ⟨rfl, by omega, h2⟩, show i' * (Γ.tl e).length + c - (i' * (Γ.tl e).length + off) = c - off by omega, List.getD_eq_getElem?_getD, List.getElem?_eq_getElem (by omega : c - off < us.length)]; rfl
                    · rw [if_neg (by omega), if_neg (by omega), if_neg (by omega)]; exact hcc _ _ hi' hc
                · have hfar : i' * (Γ.tl e).length + c < i * (Γ.tl e).length + off ∨ i * (Γ.tl e).length + off + us.length ≤ i' * (Γ.tl e).length + c := by
                    rcases Nat.lt_or_gt_of_ne hii with hlt | hgt
                    · have := Nat.mul_le_mul_right (Γ.tl e).length (show i' + 1 ≤ i by omega)
                      rw [Nat.succ_mul] at this
                      left; omega
                    · have := Nat.mul_le_mul_right (Γ.tl e).length (show i + 1 ≤ i' by omega)
                      rw [Nat.succ_mul] at this
                      right; omega
                  have hR : (if i' = i ∧ off ≤ c ∧ c < off + us.length then us.getD (c - off) (Value.bool false) else Vf i' c) = Vf i' c := if_neg fun h => hii h.1
                  rw [hR]
                  rcases hfar with h1 | h1
                  · rw [if_pos h1]; exact hcc _ _ hi' hc
                  · rw [if_neg (by omega), if_neg (by omega)]; exact hcc _ _ hi' hc
              · intro i' c τ hi' hτ
                have hcl := (List.getElem?_eq_some_iff.1 hτ).1
                have h0 := hr i' c τ hi' hτ
                by_cases hin : i' = i ∧ off ≤ c ∧ c < off + us.length
                · obtain ⟨rfl, h1, h2⟩ := hin
                  simp only [hrl', h1, h2, and_self, if_true]
                  have hdget : (dsSt off ms 0 ds).getD c (.pub 0) = .pub ((ds.getD c (.pub 0)).mask ||| ms.getD (c - off) 0) := by
                    have hcd : c < ds.length := by omega
                    rw [List.getD_eq_getElem?_getD, dsSt_get, List.getElem?_eq_getElem hcd]
                    simp only [Option.map_some, Option.getD_some, Nat.zero_add]
                    rw [if_pos ⟨h1, by omega⟩, List.getD_eq_getElem?_getD, List.getD_eq_getElem?_getD (l := ds), List.getElem?_eq_getElem hcd]; rfl
                  rw [hdget] at h0 ⊢
                  cases h0 with
                  | pub _ hGO =>
                    refine .pub ?_ hGO
                    have hcm : c - off < ms.length := by omega
                    refine hnew (c - off) (ms.getD (c - off) 0) τ ?_ ?_ _ _ ?_ ?_ _ (maskSub_or_right (maskSub_refl _))
                    · rw [List.getD_eq_getElem?_getD, List.getElem?_eq_getElem hcm]; rfl
                    · rw [← hlvs, List.getElem?_take, if_pos (by omega), List.getElem?_drop, show off + (c - off) = c by omega]; exact hτ
                    · rw [List.getD_eq_getElem?_getD, List.getElem?_eq_getElem (by omega : c - off < us.length)]; rfl
                    · rw [List.getD_eq_getElem?_getD, List.getElem?_eq_getElem (by omega : c - off < (od.get ρ).length)]; rfl
                · rw [if_neg hin, if_neg (by rw [hrl']; exact hin)]
                  refine h0.mono (fun m b' o hb' ho' => ⟨hnb b' o (fun e => by subst e; exact hb'.1 hbX) ho', hb'⟩) fun b' o hb' ho' => hnb b' o (fun e => by subst e; exact hbG _ _ hi' hcl hb') ho')
          have hfin : (E1.put s' ⟨(E1.get s').ver + 1, (E1.get s').k.setLds ((E1.get s').lds.set j (.own (dsSt off ms 0 ds) id ((E1.get s').ver + 1)))⟩).get =
              upd E2 s' ⟨(E2 s').ver + 1, (E2 s').k.setLds ((E2 s').lds.set j (.own (dsSt off ms 0 ds) id ((E2 s').ver + 1)))⟩ := by
            rw [SE.get_put, hlds2, hk2, hv2, setLds_setLds, List.set_set, hE2]
            funext k'
            by_cases hkk : k' = s'
            · subst hkk; rw [upd_same, upd_same]
            · rw [upd_ne _ _ hkk, upd_ne _ _ hkk, SS.setLd_other _ hkk]
          rw [g1, ← hfin] at main
          refine .inr ⟨w.setRow b cs', ?_, ?_⟩
          · have hcells : (a.eval x).cells = us.toArray := by rw [e1]; exact cells_pack hT hok e2 e5
            simp [execOp, ho, hev, Instr.storeAt, Instr.sureAddr, storeVar, hcells, run_sizeOfT hT hok, e2, hst]
          · rw [hd]; exact ⟨_, _, _, main⟩
        · cases htr
      · cases htr
    · cases htr
  · cases htr

end

end Go.Lgo
