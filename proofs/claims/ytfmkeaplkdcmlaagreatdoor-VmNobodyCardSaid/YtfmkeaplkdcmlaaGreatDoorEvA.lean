/- An evaluator for closed runs: tries, abstract values, heaps, operations, code, calls, deferred calls: its definitions. No condition. -/
import GoSem.Dispatch
import GoSem.Machine.Frame
import GoSem.Machine.Return
import Derived.Control
import Derived.Orders
import GoSem.ClaimWide
namespace Go.Mx

/-! ## Tries -/
inductive T (α : Type) where
  | E
  | L (x : α)
  | N (hf : Nat) (l r : T α)

namespace T
variable {α β : Type}
noncomputable def get (t : T α) (i : Nat) : Option α :=
  T.rec (motive := fun _ => Nat → Option α) (fun _ => none) (fun x i => Bool.rec none (some x) (Nat.beq i 0))
    (fun hf _ _ gl gr i => Bool.rec (gl i) (gr (Nat.sub i hf)) (Nat.ble hf i)) t i
noncomputable def setK (t : T α) (i : Nat) (v : α) (k : T α → β) : β :=
  T.rec (motive := fun _ => Nat → α → (T α → β) → β) (fun i v k => Bool.rec (k .E) (k (.L v)) (Nat.beq i 0)) (fun x i v k => Bool.rec (k (.L x)) (k (.L v)) (Nat.beq i 0))
    (fun hf l r sl sr i v k => Bool.rec (sl i v fun l' => k (.N hf l' r)) (sr (Nat.sub i hf) v fun r' => k (.N hf l r')) (Nat.ble hf i)) t i v k
noncomputable def set (t : T α) (i : Nat) (v : α) : T α := t.setK i v fun t => t
noncomputable def full (x : α) (d : Nat) : T α := Nat.rec (.L x) (fun d t => .N (Nat.pow 2 d) t t) d
noncomputable def blank (d : Nat) : T α := Nat.rec .E (fun d t => .N (Nat.pow 2 d) t t) d
noncomputable def ofL (d : Nat) (l : List α) : T α :=
  Nat.rec (motive := fun _ => List α → T α) (fun l => List.casesOn l .E (fun y _ => .L y))
    (fun d ih l => .N (Nat.pow 2 d) (ih (l.take (Nat.pow 2 d))) (ih (l.drop (Nat.pow 2 d)))) d l

theorem get_E (i : Nat) : (T.E : T α).get i = none := rfl
theorem get_L (x : α) (i : Nat) : (T.L x).get i = if i = 0 then some x else none := by
  cases i <;> rfl
theorem get_N (hf : Nat) (l r : T α) (i : Nat) : (T.N hf l r).get i = if hf ≤ i then r.get (i - hf) else l.get i := by
  show Bool.rec (motive := fun _ => Option α) (l.get i) (r.get (i - hf)) (Nat.ble hf i) = _
  by_cases h : hf ≤ i
  · rw [if_pos h, Nat.ble_eq_true_of_le h]
  · rw [if_neg h]
    cases hb : Nat.ble hf i with
    | false => rfl
    | true => exact absurd (Nat.le_of_ble_eq_true hb) h

theorem setK_eq {α : Type} (t : T α) : ∀ {β : Type} (i : Nat) (v : α) (k : T α → β), t.setK i v k = k (t.set i v) := by
  induction t with
  | E =>
    intro β i v k
    show Bool.rec (motive := fun _ => β) (k .E) (k (.L v)) (Nat.beq i 0) = k (Bool.rec (motive := fun _ => T α) .E (.L v) (Nat.beq i 0))
    cases Nat.beq i 0 <;> rfl
  | L x =>
    intro β i v k
    show Bool.rec (motive := fun _ => β) (k (.L x)) (k (.L v)) (Nat.beq i 0) = k (Bool.rec (motive := fun _ => T α) (.L x) (.L v) (Nat.beq i 0))
    cases Nat.beq i 0 <;> rfl
  | N hf l r ihl ihr =>
    intro β i v k
    show Bool.rec (motive := fun _ => β) (l.setK i v fun l' => k (.N hf l' r)) (r.setK (Nat.sub i hf) v fun r' => k (.N hf l r')) (Nat.ble hf i)
      = k (Bool.rec (motive := fun _ => T α) (l.setK i v fun l' => .N hf l' r) (r.setK (Nat.sub i hf) v fun r' => .N hf l r') (Nat.ble hf i))
    cases Nat.ble hf i
    · show l.setK i v (fun l' => k (.N hf l' r)) = k (l.setK i v fun l' => .N hf l' r)
      rw [ihl, ihl]
    · show r.setK (Nat.sub i hf) v (fun r' => k (.N hf l r')) = k (r.setK (Nat.sub i hf) v fun r' => .N hf l r')
      rw [ihr, ihr]

theorem set_E (i : Nat) (v : α) : (T.E : T α).set i v = if i = 0 then .L v else .E := by cases i <;> rfl
theorem set_L (x : α) (i : Nat) (v : α) : (T.L x).set i v = if i = 0 then .L v else .L x := by cases i <;> rfl
theorem set_N (hf : Nat) (l r : T α) (i : Nat) (v : α) : (T.N hf l r).set i v = if hf ≤ i then .N hf l (r.set (i - hf) v) else .N hf (l.set i v) r := by
  show Bool.rec (motive := fun _ => T α) (l.setK i v fun l' => T.N hf l' r) (r.setK (i - hf) v fun r' => .N hf l r') (Nat.ble hf i) = _
  by_cases h : hf ≤ i
  · rw [if_pos h, Nat.ble_eq_true_of_le h]
    simp only [setK_eq]
  · rw [if_neg h]
    cases hb : Nat.ble hf i with
    | false => simp only [setK_eq]
    | true => exact absurd (Nat.le_of_ble_eq_true hb) h

theorem get_set {t : T α} : ∀ {i j : Nat} {v x : α}, (t.set i v).get j = some x → (j = i ∧ x = v) ∨ (j ≠ i ∧ t.get j = some x) := by
  induction t with
  | E =>
    intro i j v x h
    rw [set_E] at h
    split at h
    · rw [get_L] at h
      split at h
      · exact .inl ⟨by omega, by simpa using h.symm⟩
      · cases h
    · cases h
  | L y =>
    intro i j v x h
    rw [set_L] at h
    split at h
    · rw [get_L] at h
      split at h
      · exact .inl ⟨by omega, by simpa using h.symm⟩
      · cases h
    · rename_i hi
      rw [get_L] at h
      split at h
      · exact .inr ⟨by omega, by rw [get_L, if_pos ‹_›]; exact h⟩
      · cases h
  | N hf l r ihl ihr =>
    intro i j v x h
    rw [set_N] at h
    split at h
    · rename_i hi
      rw [get_N] at h
      split at h
      · rename_i hj
        rcases ihr h with ⟨h1, h2⟩ | ⟨h1, h2⟩
        · exact .inl ⟨by omega, h2⟩
        · exact .inr ⟨by omega, by rw [get_N, if_pos hj]; exact h2⟩
      · rename_i hj
        exact .inr ⟨by omega, by rw [get_N, if_neg hj]; exact h⟩
    · rename_i hi
      rw [get_N] at h
      split at h
      · rename_i hj
        exact .inr ⟨by omega, by rw [get_N, if_pos hj]; exact h⟩
      · rename_i hj
        rcases ihl h with ⟨h1, h2⟩ | ⟨h1, h2⟩
        · exact .inl ⟨h1, h2⟩
        · exact .inr ⟨h1, by rw [get_N, if_neg hj]; exact h2⟩

theorem get_set_ne {t : T α} : ∀ {i j : Nat} {v : α}, j ≠ i → (t.set i v).get j = t.get j := by
  induction t with
  | E =>
    intro i j v h
    rw [set_E]
    split
    · rw [get_L, if_neg (by omega)]; rfl
    · rfl
  | L y =>
    intro i j v h
    rw [set_L]
    split
    · rw [get_L, if_neg (by omega), get_L, if_neg (by omega)]
    · rfl
  | N hf l r ihl ihr =>
    intro i j v h
    rw [set_N]
    split
    · rw [get_N, get_N]
      split
      · exact ihr (by omega)
      · rfl
    · rw [get_N, get_N]
      split
      · rfl
      · exact ihl (by omega)

theorem get_full {x y : α} : ∀ {d i : Nat}, (full x d).get i = some y → y = x
  | 0, i, h => by
    change (T.L x).get i = some y at h
    rw [get_L] at h
    split at h
    · simpa using h.symm
    · cases h
  | d + 1, i, h => by
    change (T.N (2 ^ d) (full x d) (full x d)).get i = some y at h
    rw [get_N] at h
    split at h
    · exact get_full h
    · exact get_full h

theorem get_blank : ∀ {d i : Nat}, (blank d : T α).get i = none
  | 0, _ => rfl
  | d + 1, i => by
    change (T.N (2 ^ d) (blank d) (blank d)).get i = none
    rw [get_N]
    split <;> exact get_blank

theorem get_ofL {y : α} : ∀ {d i : Nat} {l : List α}, (ofL d l).get i = some y → l[i]? = some y
  | 0, i, l, h => by
    cases l with
    | nil => cases h
    | cons a r =>
      change (T.L a).get i = some y at h
      rw [get_L] at h
      split at h
      · subst_vars; exact h
      · cases h
  | d + 1, i, l, h => by
    change (T.N (2 ^ d) (ofL d (l.take (2 ^ d))) (ofL d (l.drop (2 ^ d)))).get i = some y at h
    rw [get_N] at h
    split at h
    · rename_i hi
      have := get_ofL h
      rw [List.getElem?_drop] at this
      rw [← this]; congr 1; omega
    · have := get_ofL h
      rw [List.getElem?_take] at this
      split at this
      · exact this
      · cases this
end T

/-! ## Values -/
/-- a capacity: a number, or that of the block itself less so many elements; or the empty rest behind such a block's elements -/
inductive Cap where
  | known (n : Nat)
  | open_ (lo : Nat)
  | end_ (off0 lo : Nat)

inductive V where
  | bool (b : Bool)
  | int (k : IntKind) (n : Int)
  | str (s : List UInt8)
  | nptr
  | ptr (id off : Nat)
  | nslc
  | slc (id off len : Nat) (cap : Cap)
  | nmap
  | map (id : Nat)
  | fn (f : FuncId) (first caps : List V)
  | yld (l : Nat)
  | nfn
  | ifc (t : TypeId) (v : V)
  | nifc
  | agg (cs : List V)
  | tup (vs : List V)

/-- Where an abstract block lies: its block, the place of its first cell, and the capacity of an open one. -/
structure Loc where
  blk : Nat
  sh : Nat
  ext : Nat

abbrev Ren := Nat → Option Loc
def Ren.at (ρ : Ren) (id : Nat) : Loc := (ρ id).getD ⟨0, 0, 0⟩

mutual
def conc (ρ : Ren) : V → Value
  | .bool b => .bool b
  | .int k n => .int k n
  | .str s => .string ⟨s.toArray⟩
  | .nptr => .pointer none
  | .ptr id off => .pointer (some ⟨(ρ.at id).blk, (ρ.at id).sh + off, none⟩)
  | .nslc => .slice none 0 0
  | .slc id off len (.known c) => .slice (some ⟨(ρ.at id).blk, (ρ.at id).sh + off, none⟩) len c
  | .slc id off len (.open_ lo) => .slice (some ⟨(ρ.at id).blk, (ρ.at id).sh + off, none⟩) len ((ρ.at id).ext - lo)
  | .slc id off len (.end_ o0 lo) =>
    if (ρ.at id).ext = lo then .slice (some ⟨(ρ.at id).blk, (ρ.at id).sh + o0, none⟩) len 0
    else .slice (some ⟨(ρ.at id).blk, (ρ.at id).sh + off, none⟩) len ((ρ.at id).ext - lo)
  | .nmap => .map none
  | .map id => .map (some (ρ.at id).blk)
  | .fn f a c => .func (.func f) ⟨concs ρ a⟩ ⟨concs ρ c⟩
  | .yld l => .func (.yield (ρ.at l).blk) #[] #[]
  | .nfn => .nilFunc
  | .ifc t v => .iface t (conc ρ v)
  | .nifc => .nilIface
  | .agg cs => .agg ⟨concs ρ cs⟩
  | .tup vs => .tuple ⟨concs ρ vs⟩
def concs (ρ : Ren) : List V → List Value
  | [] => []
  | v :: r => conc ρ v :: concs ρ r
end

theorem concs_map (ρ : Ren) (l : List V) : concs ρ l = l.map (conc ρ) := by
  induction l with
  | nil => rfl
  | cons v r ih => simp [concs, ih]

/-- one cell's value -/
def V.flat : V → Bool
  | .agg _ | .tup _ => false
  | _ => true

def capOk (loc : Loc) (len : Nat) : Cap → Prop
  | .known c => len ≤ c
  | .open_ lo => lo + len ≤ loc.ext
  | .end_ _ lo => len = 0 ∧ lo ≤ loc.ext

mutual
def V.ok (ρ : Ren) : V → Prop
  | .ptr id _ => ∃ loc, ρ id = some loc
  | .slc id _ len cap => ∃ loc, ρ id = some loc ∧ capOk loc len cap
  | .map id => ∃ loc, ρ id = some loc
  | .yld id => ∃ loc, ρ id = some loc
  | .fn _ a c => oks ρ a ∧ oks ρ c
  | .ifc _ v => v.ok ρ
  | .agg cs => oksF ρ cs
  | .tup vs => oks ρ vs
  | _ => True
def oks (ρ : Ren) : List V → Prop
  | [] => True
  | v :: r => v.ok ρ ∧ oks ρ r
def oksF (ρ : Ren) : List V → Prop
  | [] => True
  | v :: r => (v.ok ρ ∧ v.flat = true) ∧ oksF ρ r
end

theorem oks_iff {ρ : Ren} {l : List V} : oks ρ l ↔ ∀ v ∈ l, v.ok ρ := by
  induction l with
  | nil => simp [oks]
  | cons v r ih => simp [oks, ih]
theorem oksF_iff {ρ : Ren} {l : List V} : oksF ρ l ↔ ∀ v ∈ l, v.ok ρ ∧ v.flat = true := by
  induction l with
  | nil => simp [oksF]
  | cons v r ih => simp [oksF, ih]
theorem oksF.oks {ρ : Ren} {l : List V} (h : oksF ρ l) : oks ρ l := oks_iff.2 fun v hv => (oksF_iff.1 h v hv).1

/-- ρ' says what ρ says, and perhaps more. -/
def Ren.le (ρ ρ' : Ren) : Prop := ∀ id loc, ρ id = some loc → ρ' id = some loc
theorem Ren.le.refl (ρ : Ren) : ρ.le ρ := fun _ _ h => h
theorem Ren.le.trans {a b c : Ren} (h : a.le b) (h' : b.le c) : a.le c := fun id loc e => h' id loc (h id loc e)
theorem Ren.le.at {ρ ρ' : Ren} (h : ρ.le ρ') {id : Nat} {loc : Loc} (e : ρ id = some loc) : ρ'.at id = ρ.at id := by
  simp [Ren.at, e, h id loc e]

mutual
theorem conc_le {ρ ρ' : Ren} (h : ρ.le ρ') : ∀ (v : V), v.ok ρ → conc ρ' v = conc ρ v ∧ v.ok ρ'
  | .bool _, _ => ⟨by simp [conc], by simp [V.ok]⟩
  | .int .., _ => ⟨by simp [conc], by simp [V.ok]⟩
  | .str _, _ => ⟨by simp [conc], by simp [V.ok]⟩
  | .nptr, _ => ⟨by simp [conc], by simp [V.ok]⟩
  | .nslc, _ => ⟨by simp [conc], by simp [V.ok]⟩
  | .nmap, _ => ⟨by simp [conc], by simp [V.ok]⟩
  | .nfn, _ => ⟨by simp [conc], by simp [V.ok]⟩
  | .nifc, _ => ⟨by simp [conc], by simp [V.ok]⟩
  | .ptr id off, ho => by
    simp only [V.ok] at ho ⊢
    obtain ⟨loc, e⟩ := ho
    exact ⟨by simp [conc, h.at e], loc, h _ _ e⟩
  | .map id, ho => by
    simp only [V.ok] at ho ⊢
    obtain ⟨loc, e⟩ := ho
    exact ⟨by simp [conc, h.at e], loc, h _ _ e⟩
  | .yld id, ho => by
    simp only [V.ok] at ho ⊢
    obtain ⟨loc, e⟩ := ho
    exact ⟨by simp [conc, h.at e], loc, h _ _ e⟩
  | .slc id off len cap, ho => by
    simp only [V.ok] at ho ⊢
    obtain ⟨loc, e, hc⟩ := ho
    exact ⟨by cases cap <;> simp [conc, h.at e], loc, h _ _ e, hc⟩
  | .fn f a c, ho => by
    simp only [V.ok] at ho ⊢
    have h1 := concs_le h a ho.1
    have h2 := concs_le h c ho.2
    exact ⟨by simp [conc, h1.1, h2.1], h1.2, h2.2⟩
  | .ifc t v, ho => by
    simp only [V.ok] at ho ⊢
    have h1 := conc_le h v ho
    exact ⟨by simp [conc, h1.1], h1.2⟩
  | .agg cs, ho => by
    simp only [V.ok] at ho ⊢
    have h1 := concsF_le h cs ho
    exact ⟨by simp [conc, h1.1], h1.2⟩
  | .tup vs, ho => by
    simp only [V.ok] at ho ⊢
    have h1 := concs_le h vs ho
    exact ⟨by simp [conc, h1.1], h1.2⟩
theorem concs_le {ρ ρ' : Ren} (h : ρ.le ρ') : ∀ (l : List V), oks ρ l → concs ρ' l = concs ρ l ∧ oks ρ' l
  | [], _ => ⟨rfl, trivial⟩
  | v :: r, ho => by
    simp only [oks] at ho ⊢
    have h1 := conc_le h v ho.1
    have h2 := concs_le h r ho.2
    exact ⟨by simp [concs, h1.1, h2.1], h1.2, h2.2⟩
theorem concsF_le {ρ ρ' : Ren} (h : ρ.le ρ') : ∀ (l : List V), oksF ρ l → concs ρ' l = concs ρ l ∧ oksF ρ' l
  | [], _ => ⟨rfl, trivial⟩
  | v :: r, ho => by
    simp only [oksF] at ho ⊢
    have h1 := conc_le h v ho.1.1
    have h2 := concsF_le h r ho.2
    exact ⟨by simp [concs, h1.1, h2.1], ⟨h1.2, ho.1.2⟩, h2.2⟩
end

/-! ## Heaps -/
inductive O where
  | cells (c : T V) (n : Nat) (elem : TypeId) (opn ro : Bool) (fz : Nat)
  | map (es : List (V × V × Nat)) (clock : Nat)
  | siter (s : List UInt8) (pos : Nat)
  | miter (m : Option Nat) (since : Nat) (seen : List Nat) (last : Nat)
  | loop (state : LoopState) (pend : Option Code) (fn : FuncId) (n : Nat) (tm : T V) (params : List Tmp) (assign body : Code) (dfr : Nat)
  | dfr
  | dead

/-- what may be written -/
def O.live : O → Bool
  | .cells _ _ _ _ ro _ => !ro
  | .dead => false
  | _ => true

abbrev G := Nat → Option O

/-- slots: what is known of them stands there -/
def TmRel (ρ : Ren) (tm : T V) (tmps : Array Value) : Prop :=
  ∀ t v, tm.get t = some v → tmps.getD t undef = conc ρ v ∧ v.ok ρ

def entry (ρ : Ren) (e : V × V × Nat) : MapEntry := { key := conc ρ e.1, val := conc ρ e.2.1, born := e.2.2 }

def ORel (P : Program) (ρ : Ren) (loc : Loc) (w : World) : O → Prop
  | .cells c n el opn ro fz =>
    (∀ i v, i < n → c.get i = some v → w.cell? ⟨loc.blk, loc.sh + i, none⟩ = some (conc ρ v) ∧ v.ok ρ ∧ v.flat = true) ∧
    (ro = false → ∃ arr lo hi, w.heap[loc.blk]? = some (.cells arr el (lo, hi)) ∧ loc.sh + n ≤ arr.size ∧ (∀ j, fz ≤ j → loc.sh + j < arr.size → ¬ (lo ≤ loc.sh + j ∧ loc.sh + j < hi)) ∧
      (opn = false → loc.sh = 0 ∧ arr.size = n) ∧
      (opn = true → ∃ i, P.info? el = some i ∧ arr.size = loc.sh + loc.ext * i.size))
  | .map es clock => w.heap[loc.blk]? = some (.map ⟨es.map (entry ρ)⟩ clock) ∧ ∀ e ∈ es, e.1.ok ρ ∧ e.2.1.ok ρ
  | .siter s pos => w.heap[loc.blk]? = some (.stringIter ⟨s.toArray⟩ pos) ∧ loc.sh = 0
  | .miter m since seen last => loc.sh = 0 ∧
    match m with
    | none => w.heap[loc.blk]? = some (.mapIter none since ⟨seen⟩ last)
    | some id => ∃ lm, ρ id = some lm ∧ w.heap[loc.blk]? = some (.mapIter (some lm.blk) since ⟨seen⟩ last)
  | .loop state pend fn n tm params assign body dfr => ∃ tmps ld, ρ dfr = some ld ∧ tmps.size = n ∧ TmRel ρ tm tmps ∧
    w.heap[loc.blk]? = some (.loop { state, pending := pend, fn, tmps, params := ⟨params⟩, assign, body, defers := ld.blk })
  | .dfr => w.heap[loc.blk]? = some (.deferred (some []))
  | .dead => True

def Live (g : G) (id : Nat) : Prop := ∃ o, g id = some o ∧ o.live = true

structure Rel (P : Program) (ρ : Ren) (g : G) (w : World) : Prop where
  obj : ∀ id loc, ρ id = some loc → loc.blk < w.heap.size ∧ ∀ o, g id = some o → ORel P ρ loc w o
  inj : ∀ id id' loc loc', ρ id = some loc → ρ id' = some loc' → id ≠ id' → loc.blk = loc'.blk → Live g id → g id' = none ∨ g id' = some .dead

end Go.Mx

namespace Go.Mx

inductive H where
  | mk (next : Nat) (objs : T O) (log : List Nat)
noncomputable def H.next (h : H) : Nat := H.casesOn h (fun n _ _ => n)
noncomputable def H.objs (h : H) : T O := H.casesOn h (fun _ t _ => t)
noncomputable def H.log (h : H) : List Nat := H.casesOn h (fun _ _ l => l)
noncomputable def H.get (h : H) : G := fun id => h.objs.get id

theorem orel_same {P : Program} {ρ : Ren} {loc : Loc} {w w' : World} (e : w'.heap[loc.blk]? = w.heap[loc.blk]?) : ∀ {o : O}, ORel P ρ loc w o → ORel P ρ loc w' o
  | .cells c n el opn ro fz, h => by
    refine ⟨fun i v hi hv => ?_, fun hr => ?_⟩
    · have := h.1 i v hi hv
      unfold World.cell? at this ⊢
      simp only [e]; exact this
    · obtain ⟨arr, lo, hi, h1, h2⟩ := h.2 hr
      exact ⟨arr, lo, hi, by rw [e]; exact h1, h2⟩
  | .map .., h => ⟨by rw [e]; exact h.1, h.2⟩
  | .siter .., h => ⟨by rw [e]; exact h.1, h.2⟩
  | .miter m _ _ _, h => by
    cases m with
    | none => exact ⟨h.1, by rw [e]; exact h.2⟩
    | some id => obtain ⟨h1, lm, h2, h3⟩ := h; exact ⟨h1, lm, h2, by rw [e]; exact h3⟩
  | .loop .., h => by
    obtain ⟨tmps, ld, h1, h2, h3, h4⟩ := h
    exact ⟨tmps, ld, h1, h2, h3, by rw [e]; exact h4⟩
  | .dfr, h => by show _ = _; rw [e]; exact h
  | .dead, _ => trivial

theorem tmRel_le {ρ ρ' : Ren} (h : ρ.le ρ') {tm : T V} {tmps : Array Value} (r : TmRel ρ tm tmps) : TmRel ρ' tm tmps := fun t v e => by
  have h1 := r t v e
  have h2 := conc_le h v h1.2
  exact ⟨by rw [h1.1, h2.1], h2.2⟩

theorem orel_le {P : Program} {ρ ρ' : Ren} (l : ρ.le ρ') {loc : Loc} {w : World} : ∀ {o : O}, ORel P ρ loc w o → ORel P ρ' loc w o
  | .cells .., h => ⟨fun i v hi hv => by
      have h1 := h.1 i v hi hv
      have h2 := conc_le l v h1.2.1
      exact ⟨by rw [h2.1]; exact h1.1, h2.2, h1.2.2⟩, h.2⟩
  | .map es _, h => by
    refine ⟨?_, fun e he => ⟨(conc_le l _ (h.2 e he).1).2, (conc_le l _ (h.2 e he).2).2⟩⟩
    rw [h.1, show es.map (entry ρ') = es.map (entry ρ) from List.map_congr_left fun e he => by
      unfold entry; rw [(conc_le l _ (h.2 e he).1).1, (conc_le l _ (h.2 e he).2).1]]
  | .siter .., h => h
  | .miter m _ _ _, h => by
    cases m with
    | none => exact h
    | some id => obtain ⟨h1, lm, h2, h3⟩ := h; exact ⟨h1, lm, l _ _ h2, h3⟩
  | .loop .., h => by
    obtain ⟨tmps, ld, h1, h2, h3, h4⟩ := h
    exact ⟨tmps, ld, l _ _ h1, h2, tmRel_le l h3, h4⟩
  | .dfr, h => h
  | .dead, _ => trivial

/-- Nothing lies behind the next number. -/
structure Top (ρ : Ren) (h : H) : Prop where
  dom : ∀ id, h.next ≤ id → ρ id = none
  clean : ∀ id, h.next ≤ id → h.get id = none

/-- From (ρ, h, w) to (ρ', h', w'). -/
structure Ext (P : Program) (ρ : Ren) (h : H) (w : World) (ρ' : Ren) (h' : H) (w' : World) : Prop where
  le : ρ.le ρ'
  fresh : ∀ id loc, ρ' id = some loc → ρ id = none → h.next ≤ id ∧ (w.heap.size ≤ loc.blk ∨ ∃ id0 loc0, ρ id0 = some loc0 ∧ loc0.blk = loc.blk ∧ Live h.get id0)
  nx : h.next ≤ h'.next
  top : Top ρ' h'
  rel : Rel P ρ' h'.get w'
  size : w.heap.size ≤ w'.heap.size
  frame : ∀ b, b < w.heap.size → (∀ id loc, ρ id = some loc → loc.blk = b → ¬ Live h.get id) → w'.heap[b]? = w.heap[b]?
  old : ∀ id loc, ρ id = some loc → Live h'.get id → Live h.get id
  os : w'.os = w.os
  out : w'.output = w.output
  wr : ∃ l, h'.log = l ++ h.log ∧ ∀ id, id < h.next → id ∉ l → h'.get id = h.get id

theorem Ext.refl {P : Program} {ρ : Ren} {h : H} {w : World} (r : Rel P ρ h.get w) (t : Top ρ h) : Ext P ρ h w ρ h w where
  le := .refl ρ
  fresh := fun id loc e e' => by rw [e] at e'; cases e'
  nx := Nat.le_refl _
  top := t
  rel := r
  size := Nat.le_refl _
  frame := fun _ _ _ => rfl
  old := fun _ _ _ l => l
  os := rfl
  out := rfl
  wr := ⟨[], rfl, fun _ _ _ => rfl⟩

theorem Ext.trans {P : Program} {ρ ρ' ρ'' : Ren} {h h' h'' : H} {w w' w'' : World} (a : Ext P ρ h w ρ' h' w') (b : Ext P ρ' h' w' ρ'' h'' w'') : Ext P ρ h w ρ'' h'' w'' where
  le := a.le.trans b.le
  fresh := fun id loc e e' => by
    cases e1 : ρ' id with
    | some loc1 =>
      have : loc1 = loc := by have := b.le id loc1 e1; rw [e] at this; cases this; rfl
      subst this
      exact a.fresh id loc1 e1 e'
    | none =>
      obtain ⟨h1, h2⟩ := b.fresh id loc e e1
      refine ⟨Nat.le_trans a.nx h1, ?_⟩
      rcases h2 with h2 | ⟨id0, loc0, e0, eb, l0⟩
      · exact .inl (Nat.le_trans a.size h2)
      · cases e2 : ρ id0 with
        | some l2 =>
          have : l2 = loc0 := by have := a.le id0 l2 e2; rw [e0] at this; cases this; rfl
          subst this
          exact .inr ⟨id0, l2, e2, eb, a.old _ _ e2 l0⟩
        | none =>
          rcases (a.fresh id0 loc0 e0 e2).2 with h3 | h3
          · exact .inl (eb ▸ h3)
          · rw [← eb]; exact .inr h3
  nx := Nat.le_trans a.nx b.nx
  top := b.top
  rel := b.rel
  size := Nat.le_trans a.size b.size
  frame := fun blk hb hn => by
    rw [b.frame blk (Nat.lt_of_lt_of_le hb a.size) ?_, a.frame blk hb hn]
    intro id loc e eb l
    cases e1 : ρ id with
    | some loc1 =>
      have : loc1 = loc := by have := a.le id loc1 e1; rw [e] at this; cases this; rfl
      subst this
      exact hn id loc1 e1 eb (a.old _ _ e1 l)
    | none =>
      rcases (a.fresh id loc e e1).2 with h3 | ⟨id0, loc0, e0, eb0, l0⟩
      · omega
      · exact hn id0 loc0 e0 (eb0.trans eb) l0
  old := fun id loc e l => a.old id loc e (b.old id loc (a.le _ _ e) l)
  os := b.os.trans a.os
  out := b.out.trans a.out
  wr := by
    obtain ⟨l1, e1, k1⟩ := a.wr
    obtain ⟨l2, e2, k2⟩ := b.wr
    refine ⟨l2 ++ l1, by rw [e2, e1, List.append_assoc], fun id hid hn => ?_⟩
    rw [k2 id (Nat.lt_of_lt_of_le hid a.nx) (fun hm => hn (List.mem_append_left _ hm)), k1 id hid (fun hm => hn (List.mem_append_right _ hm))]

/-- one more block -/
def World.push (w : World) (o : Obj) : World := { w with heap := w.heap.push o }

theorem push_old {w : World} {o : Obj} {b : Nat} (h : b < w.heap.size) : (World.push w o).heap[b]? = w.heap[b]? := by
  show (w.heap.push o)[b]? = _
  rw [Array.getElem?_push]; rw [if_neg (by omega)]
theorem push_new {w : World} {o : Obj} : (World.push w o).heap[w.heap.size]? = some o := by
  show (w.heap.push o)[w.heap.size]? = _
  simp

noncomputable def H.putNew (h : H) (o : O) : H := .mk (h.next + 1) (h.objs.set h.next o) h.log
noncomputable def H.put (h : H) (id : Nat) (o : O) : H := .mk h.next (h.objs.set id o) (id :: h.log)

def Ren.add (ρ : Ren) (id : Nat) (loc : Loc) : Ren := fun j => if j = id then some loc else ρ j
theorem Ren.add_le {ρ : Ren} {id : Nat} {loc : Loc} (h : ρ id = none) : ρ.le (ρ.add id loc) := fun j l e => by
  unfold Ren.add
  split
  · subst_vars; rw [h] at e; cases e
  · exact e
theorem Ren.add_self {ρ : Ren} {id : Nat} {loc : Loc} : ρ.add id loc id = some loc := by simp [Ren.add]
theorem Ren.add_ne {ρ : Ren} {id j : Nat} {loc : Loc} (h : j ≠ id) : ρ.add id loc j = ρ j := by simp [Ren.add, h]

theorem get_putNew {h : H} {o x : O} {j : Nat} (e : (h.putNew o).get j = some x) : (j = h.next ∧ x = o) ∨ (j ≠ h.next ∧ h.get j = some x) := T.get_set e
theorem get_putNew_ne {h : H} {o : O} {j : Nat} (e : j ≠ h.next) : (h.putNew o).get j = h.get j := T.get_set_ne e
theorem get_put {h : H} {id : Nat} {o x : O} {j : Nat} (e : (h.put id o).get j = some x) : (j = id ∧ x = o) ∨ (j ≠ id ∧ h.get j = some x) := T.get_set e
theorem get_put_ne {h : H} {id : Nat} {o : O} {j : Nat} (e : j ≠ id) : (h.put id o).get j = h.get j := T.get_set_ne e

/-- A NEW BLOCK. -/
theorem Ext.push {P : Program} {ρ : Ren} {h : H} {w : World} {o : O} {x : Obj} {ext : Nat} (r : Rel P ρ h.get w) (t : Top ρ h)
    (ho : ORel P (ρ.add h.next ⟨w.heap.size, 0, ext⟩) ⟨w.heap.size, 0, ext⟩ (World.push w x) o) :
    Ext P ρ h w (ρ.add h.next ⟨w.heap.size, 0, ext⟩) (h.putNew o) (World.push w x) where
  le := Ren.add_le (t.dom _ (Nat.le_refl _))
  fresh := fun id loc e e' => by
    by_cases hid : id = h.next
    · subst hid
      rw [Ren.add_self] at e; cases e
      exact ⟨Nat.le_refl _, .inl (Nat.le_refl _)⟩
    · rw [Ren.add_ne hid] at e; rw [e] at e'; cases e'
  nx := Nat.le_succ _
  top := ⟨fun id hid => by
      have hid : h.next + 1 ≤ id := hid
      rw [Ren.add_ne (by omega)]; exact t.dom _ (by omega), fun id hid => by
      have hid : h.next + 1 ≤ id := hid
      rw [get_putNew_ne (by omega)]; exact t.clean _ (by omega)⟩
  rel := {
    obj := fun id loc e => by
      by_cases hid : id = h.next
      · subst hid
        rw [Ren.add_self] at e; cases e
        refine ⟨by simp [World.push], fun o' eo => ?_⟩
        rcases get_putNew eo with ⟨_, rfl⟩ | ⟨hne, _⟩
        · exact ho
        · exact absurd rfl hne
      · rw [Ren.add_ne hid] at e
        obtain ⟨h1, h2⟩ := r.obj id loc e
        refine ⟨by simp [World.push]; omega, fun o' eo => ?_⟩
        rw [get_putNew_ne hid] at eo
        exact orel_le (Ren.add_le (t.dom _ (Nat.le_refl _))) (orel_same (push_old h1) (h2 o' eo))
    inj := fun id id' loc loc' e e' hne hb l => by
      by_cases hid : id = h.next
      · subst hid
        rw [Ren.add_self] at e; cases e
        rw [Ren.add_ne (Ne.symm hne)] at e'
        have := (r.obj _ _ e').1
        simp at hb; omega
      · rw [Ren.add_ne hid] at e
        by_cases hid' : id' = h.next
        · subst hid'
          rw [Ren.add_self] at e'; cases e'
          have := (r.obj _ _ e).1
          simp at hb; omega
        · rw [Ren.add_ne hid'] at e'
          rw [get_putNew_ne hid']
          refine r.inj id id' loc loc' e e' hne hb ?_
          obtain ⟨o', eo, ol⟩ := l
          rw [get_putNew_ne hid] at eo
          exact ⟨o', eo, ol⟩ }
  size := by simp [World.push]
  frame := fun b hb _ => push_old hb
  old := fun id loc e l => by
    obtain ⟨o', eo, ol⟩ := l
    have hid : id ≠ h.next := fun hh => by subst hh; rw [t.dom _ (Nat.le_refl _)] at e; cases e
    rw [get_putNew_ne hid] at eo
    exact ⟨o', eo, ol⟩
  os := rfl
  out := rfl
  wr := ⟨[], rfl, fun id hid _ => get_putNew_ne (by omega)⟩

/-- A BLOCK IS WRITTEN: that of a live object alone. -/
theorem Ext.write {P : Program} {ρ : Ren} {h : H} {w w' : World} {id : Nat} {loc : Loc} {o o' : O} (r : Rel P ρ h.get w) (t : Top ρ h)
    (hid : ρ id = some loc) (hg : h.get id = some o) (hl : o.live = true) (hsize : w'.heap.size = w.heap.size)
    (hs : ∀ b, b ≠ loc.blk → w'.heap[b]? = w.heap[b]?) (ho : ORel P ρ loc w' o') (hos : w'.os = w.os) (hout : w'.output = w.output) :
    Ext P ρ h w ρ (h.put id o') w' where
  le := .refl ρ
  fresh := fun _ _ e e' => by rw [e] at e'; cases e'
  nx := Nat.le_refl _
  top := ⟨t.dom, fun j hj => by
    have hj : h.next ≤ j := hj
    have hne : j ≠ id := fun e => by subst e; rw [t.dom _ hj] at hid; cases hid
    rw [get_put_ne hne]; exact t.clean _ hj⟩
  rel := {
    obj := fun j lj e => by
      obtain ⟨h1, h2⟩ := r.obj j lj e
      refine ⟨by omega, fun x ex => ?_⟩
      rcases get_put ex with ⟨rfl, rfl⟩ | ⟨hne, ex⟩
      · rw [hid] at e; cases e; exact ho
      · by_cases hb : lj.blk = loc.blk
        · rcases r.inj id j loc lj hid e (Ne.symm hne) hb.symm ⟨o, hg, hl⟩ with h3 | h3
          · rw [h3] at ex; cases ex
          · rw [h3] at ex; cases ex; trivial
        · exact orel_same (hs _ hb) (h2 x ex)
    inj := fun i j li lj ei ej hne hb l => by
      obtain ⟨x, ex, xl⟩ := l
      by_cases hj : j = id
      · subst hj
        have hne' : i ≠ j := hne
        rw [get_put_ne hne'] at ex
        rcases r.inj i j li lj ei ej hne hb ⟨x, ex, xl⟩ with h3 | h3
        · rw [hg] at h3; cases h3
        · rw [hg] at h3; cases h3; cases hl
      · rw [get_put_ne hj]
        by_cases hi : i = id
        · subst hi
          exact r.inj i j li lj ei ej hne hb ⟨o, hg, hl⟩
        · rw [get_put_ne hi] at ex
          exact r.inj i j li lj ei ej hne hb ⟨x, ex, xl⟩ }
  size := by omega
  frame := fun b hb hn => hs b fun e => hn id loc hid e.symm ⟨o, hg, hl⟩
  old := fun j lj e l => by
    by_cases hj : j = id
    · subst hj; exact ⟨o, hg, hl⟩
    · obtain ⟨x, ex, xl⟩ := l
      rw [get_put_ne hj] at ex
      exact ⟨x, ex, xl⟩
  os := hos
  out := hout
  wr := ⟨[id], rfl, fun j _ hn => get_put_ne (by simpa using hn)⟩

/-- A draw: no block has turned. -/
theorem Ext.same {P : Program} {ρ : Ren} {h : H} {w w' : World} (r : Rel P ρ h.get w) (t : Top ρ h) (e : w'.heap = w.heap) (hos : w'.os = w.os) (hout : w'.output = w.output) :
    Ext P ρ h w ρ h w' where
  le := .refl ρ
  fresh := fun _ _ e e' => by rw [e] at e'; cases e'
  nx := Nat.le_refl _
  top := t
  rel := ⟨fun id loc hi => by
    obtain ⟨h1, h2⟩ := r.obj id loc hi
    exact ⟨by rw [e]; exact h1, fun o eo => orel_same (by rw [e]) (h2 o eo)⟩, r.inj⟩
  size := by rw [e]; exact Nat.le_refl _
  frame := fun _ _ _ => by rw [e]
  old := fun _ _ _ l => l
  os := hos
  out := hout
  wr := ⟨[], rfl, fun _ _ _ => rfl⟩

/-- Something is given up: nothing is known of it any more. -/
theorem Ext.kill {P : Program} {ρ : Ren} {h : H} {w : World} {id : Nat} (hid : id < h.next) (r : Rel P ρ h.get w) (t : Top ρ h) :
    Ext P ρ h w ρ (h.put id .dead) w where
  le := .refl ρ
  fresh := fun _ _ e e' => by rw [e] at e'; cases e'
  nx := Nat.le_refl _
  top := ⟨t.dom, fun j hj => by
    have hj : h.next ≤ j := hj
    rw [get_put_ne (by omega)]; exact t.clean _ hj⟩
  rel := {
    obj := fun j lj e => by
      obtain ⟨h1, h2⟩ := r.obj j lj e
      refine ⟨h1, fun x ex => ?_⟩
      rcases get_put ex with ⟨rfl, rfl⟩ | ⟨_, ex⟩
      · trivial
      · exact h2 x ex
    inj := fun i j li lj ei ej hne hb l => by
      obtain ⟨x, ex, xl⟩ := l
      have hx : Live h.get i := by
        rcases get_put ex with ⟨rfl, rfl⟩ | ⟨_, ex⟩
        · cases xl
        · exact ⟨x, ex, xl⟩
      rcases r.inj i j li lj ei ej hne hb hx with h3 | h3
      · cases h4 : (h.put id .dead).get j with
        | none => exact .inl rfl
        | some y =>
          rcases get_put h4 with ⟨_, rfl⟩ | ⟨_, h5⟩
          · exact .inr rfl
          · rw [h3] at h5; cases h5
      · cases h4 : (h.put id .dead).get j with
        | none => exact .inl rfl
        | some y =>
          rcases get_put h4 with ⟨_, rfl⟩ | ⟨_, h5⟩
          · exact .inr rfl
          · rw [h3] at h5; cases h5; exact .inr rfl }
  size := Nat.le_refl _
  frame := fun _ _ _ => rfl
  old := fun j lj e l => by
    obtain ⟨x, ex, xl⟩ := l
    rcases get_put ex with ⟨rfl, rfl⟩ | ⟨_, ex⟩
    · cases xl
    · exact ⟨x, ex, xl⟩
  os := rfl
  out := rfl
  wr := ⟨[id], rfl, fun j _ hn => get_put_ne (by simpa using hn)⟩

/-- A NEW NAME FOR A BLOCK that has been given up, written or not (an append in place). -/
theorem Ext.rename {P : Program} {ρ : Ren} {h : H} {w w' : World} {id : Nat} {loc loc' : Loc} {o o' : O} (r : Rel P ρ h.get w) (t : Top ρ h)
    (hid : ρ id = some loc) (hg : h.get id = some o) (hl : o.live = true) (hb : loc'.blk = loc.blk) (hsize : w'.heap.size = w.heap.size)
    (hs : ∀ b, b ≠ loc.blk → w'.heap[b]? = w.heap[b]?) (ho : ORel P (ρ.add h.next loc') loc' w' o') (hos : w'.os = w.os) (hout : w'.output = w.output) :
    Ext P ρ h w (ρ.add h.next loc') ((h.put id .dead).putNew o') w' where
  le := Ren.add_le (t.dom _ (Nat.le_refl _))
  fresh := fun j lj e e' => by
    by_cases hj : j = h.next
    · subst hj
      rw [Ren.add_self] at e; cases e
      exact ⟨Nat.le_refl _, .inr ⟨id, loc, hid, hb.symm, ⟨o, hg, hl⟩⟩⟩
    · rw [Ren.add_ne hj] at e; rw [e] at e'; cases e'
  nx := Nat.le_succ _
  top := ⟨fun j hj => by
      have hj : h.next + 1 ≤ j := hj
      rw [Ren.add_ne (by omega)]; exact t.dom _ (by omega), fun j hj => by
      have hj : h.next + 1 ≤ j := hj
      have hne : j ≠ id := fun e => by subst e; rw [t.dom _ (by omega)] at hid; cases hid
      rw [get_putNew_ne (h := h.put id .dead) (show j ≠ (h.put id .dead).next from by show j ≠ h.next; omega), get_put_ne hne]; exact t.clean _ (by omega)⟩
  rel := {
    obj := fun j lj e => by
      by_cases hj : j = h.next
      · subst hj
        rw [Ren.add_self] at e; cases e
        refine ⟨by rw [hb, hsize]; exact (r.obj id loc hid).1, fun x ex => ?_⟩
        rcases get_putNew ex with ⟨_, rfl⟩ | ⟨hne, _⟩
        · exact ho
        · exact absurd rfl hne
      · rw [Ren.add_ne hj] at e
        obtain ⟨h1, h2⟩ := r.obj j lj e
        refine ⟨by omega, fun x ex => ?_⟩
        rw [get_putNew_ne (h := h.put id .dead) hj] at ex
        rcases get_put ex with ⟨rfl, rfl⟩ | ⟨hne, ex⟩
        · trivial
        · by_cases hbb : lj.blk = loc.blk
          · rcases r.inj id j loc lj hid e (Ne.symm hne) hbb.symm ⟨o, hg, hl⟩ with h3 | h3
            · rw [h3] at ex; cases ex
            · rw [h3] at ex; cases ex; trivial
          · exact orel_le (Ren.add_le (t.dom _ (Nat.le_refl _))) (orel_same (hs _ hbb) (h2 x ex))
    inj := fun i j li lj ei ej hne hbb l => by
      obtain ⟨x, ex, xl⟩ := l
      by_cases hi : i = h.next
      · subst hi
        rw [Ren.add_self] at ei; cases ei
        rw [Ren.add_ne (Ne.symm hne)] at ej
        rw [get_putNew_ne (h := h.put id .dead) (Ne.symm hne)]
        by_cases hj : j = id
        · subst hj
          cases h4 : (h.put j .dead).get j with
          | none => exact .inl rfl
          | some y =>
            rcases get_put h4 with ⟨_, rfl⟩ | ⟨h5, _⟩
            · exact .inr rfl
            · exact absurd rfl h5
        · rw [get_put_ne hj]
          exact r.inj id j loc lj hid ej (Ne.symm hj) (hb.symm.trans hbb) ⟨o, hg, hl⟩
      · rw [Ren.add_ne hi] at ei
        rw [get_putNew_ne (h := h.put id .dead) hi] at ex
        have hid' : i ≠ id := fun hh => by
          subst hh
          rcases get_put ex with ⟨_, rfl⟩ | ⟨h5, _⟩
          · cases xl
          · exact absurd rfl h5
        rw [get_put_ne hid'] at ex
        by_cases hj : j = h.next
        · subst hj
          rw [Ren.add_self] at ej; cases ej
          rcases r.inj i id li loc ei hid hid' (hbb.trans hb) ⟨x, ex, xl⟩ with h3 | h3
          · rw [hg] at h3; cases h3
          · rw [hg] at h3; cases h3; cases hl
        · rw [Ren.add_ne hj] at ej
          rw [get_putNew_ne (h := h.put id .dead) hj]
          by_cases hj' : j = id
          · subst hj'
            cases h4 : (h.put j .dead).get j with
            | none => exact .inl rfl
            | some y =>
              rcases get_put h4 with ⟨_, rfl⟩ | ⟨h5, _⟩
              · exact .inr rfl
              · exact absurd rfl h5
          · rw [get_put_ne hj']
            exact r.inj i j li lj ei ej hne hbb ⟨x, ex, xl⟩ }
  size := by omega
  frame := fun b hb' hn => hs b fun e => hn id loc hid e.symm ⟨o, hg, hl⟩
  old := fun j lj e l => by
    obtain ⟨x, ex, xl⟩ := l
    have hj : j ≠ h.next := fun hh => by subst hh; rw [t.dom _ (Nat.le_refl _)] at e; cases e
    rw [get_putNew_ne (h := h.put id .dead) hj] at ex
    rcases get_put ex with ⟨rfl, rfl⟩ | ⟨_, ex⟩
    · cases xl
    · exact ⟨x, ex, xl⟩
  os := hos
  out := hout
  wr := ⟨[id], rfl, fun j hj hn => by
    rw [get_putNew_ne (h := h.put id .dead) (show j ≠ (h.put id .dead).next from Nat.ne_of_lt hj), get_put_ne (by simpa using hn)]⟩

/-- What is known less still stands. -/
theorem Rel.less {P : Program} {ρ : Ren} {g g' : G} {w : World} (r : Rel P ρ g w) (k : ∀ id o, g' id = some o → o = .dead ∨ g id = some o) : Rel P ρ g' w where
  obj := fun id loc e => ⟨(r.obj id loc e).1, fun o eo => by
    rcases k id o eo with rfl | h
    · trivial
    · exact (r.obj id loc e).2 o h⟩
  inj := fun i j li lj ei ej hne hb l => by
    obtain ⟨x, ex, xl⟩ := l
    rcases k i x ex with rfl | hx
    · cases xl
    · cases hj : g' j with
      | none => exact .inl rfl
      | some y =>
        rcases k j y hj with rfl | hy
        · exact .inr rfl
        · rcases r.inj i j li lj ei ej hne hb ⟨x, hx, xl⟩ with h3 | h3
          · rw [h3] at hy; cases hy
          · rw [h3] at hy; cases hy; exact .inr rfl

end Go.Mx

namespace Go.Mx
noncomputable section

def und : V := .tup []

section
variable {β : Type}
def V.ptrK (v : V) (no : β) (k : Nat → Nat → β) : β :=
  V.casesOn (motive_1 := fun _ => β → (Nat → Nat → β) → β) v (fun _ n _ => n) (fun _ _ n _ => n) (fun _ n _ => n) (fun n _ => n) (fun i o _ k => k i o) (fun n _ => n) (fun _ _ _ _ n _ => n) (fun n _ => n) (fun _ n _ => n) (fun _ _ _ n _ => n) (fun _ n _ => n) (fun n _ => n) (fun _ _ n _ => n) (fun n _ => n) (fun _ n _ => n) (fun _ n _ => n) no k
def V.intK (v : V) (no : β) (k : IntKind → Int → β) : β :=
  V.casesOn (motive_1 := fun _ => β → (IntKind → Int → β) → β) v (fun _ n _ => n) (fun q i _ k => k q i) (fun _ n _ => n) (fun n _ => n) (fun _ _ n _ => n) (fun n _ => n) (fun _ _ _ _ n _ => n) (fun n _ => n) (fun _ n _ => n) (fun _ _ _ n _ => n) (fun _ n _ => n) (fun n _ => n) (fun _ _ n _ => n) (fun n _ => n) (fun _ n _ => n) (fun _ n _ => n) no k
def V.boolK (v : V) (no : β) (k : Bool → β) : β :=
  V.casesOn (motive_1 := fun _ => β → (Bool → β) → β) v (fun b _ k => k b) (fun _ _ n _ => n) (fun _ n _ => n) (fun n _ => n) (fun _ _ n _ => n) (fun n _ => n) (fun _ _ _ _ n _ => n) (fun n _ => n) (fun _ n _ => n) (fun _ _ _ n _ => n) (fun _ n _ => n) (fun n _ => n) (fun _ _ n _ => n) (fun n _ => n) (fun _ n _ => n) (fun _ n _ => n) no k
def V.slcK (v : V) (no : β) (k : Nat → Nat → Nat → Cap → β) : β :=
  V.casesOn (motive_1 := fun _ => β → (Nat → Nat → Nat → Cap → β) → β) v (fun _ n _ => n) (fun _ _ n _ => n) (fun _ n _ => n) (fun n _ => n) (fun _ _ n _ => n) (fun n _ => n) (fun i o l c _ k => k i o l c) (fun n _ => n) (fun _ n _ => n) (fun _ _ _ n _ => n) (fun _ n _ => n) (fun n _ => n) (fun _ _ n _ => n) (fun n _ => n) (fun _ n _ => n) (fun _ n _ => n) no k
def V.aggK (v : V) (no : β) (k : List V → β) : β :=
  V.casesOn (motive_1 := fun _ => β → (List V → β) → β) v (fun _ n _ => n) (fun _ _ n _ => n) (fun _ n _ => n) (fun n _ => n) (fun _ _ n _ => n) (fun n _ => n) (fun _ _ _ _ n _ => n) (fun n _ => n) (fun _ n _ => n) (fun _ _ _ n _ => n) (fun _ n _ => n) (fun n _ => n) (fun _ _ n _ => n) (fun n _ => n) (fun c _ k => k c) (fun _ n _ => n) no k
/-- a value's cells -/
def V.cellsK (v : V) (no : β) (k : List V → β) : β :=
  V.casesOn (motive_1 := fun _ => V → β → (List V → β) → β) v (fun _ v _ k => k [v]) (fun _ _ v _ k => k [v]) (fun _ v _ k => k [v]) (fun v _ k => k [v]) (fun _ _ v _ k => k [v]) (fun v _ k => k [v]) (fun _ _ _ _ v _ k => k [v]) (fun v _ k => k [v]) (fun _ v _ k => k [v]) (fun _ _ _ v _ k => k [v]) (fun _ v _ k => k [v]) (fun v _ k => k [v]) (fun _ _ v _ k => k [v]) (fun v _ k => k [v]) (fun c _ _ k => k c) (fun _ _ n _ => n) v no k
end

/-- what an operation gives -/
inductive OpR where
  | no
  | val (v : V) (h : H)
  | skip (h : H)
  | enter (f : FuncId) (args : List V) (h : H)
  | round (l : Nat) (args : List V) (h : H)
  | pan (v : V) (h : H)

/-! ### constants -/
mutual
def ofVal : Value → Option V
  | .bool b => some (.bool b)
  | .int k n => some (.int k n)
  | .string s => some (.str s.data.toList)
  | .pointer none => some .nptr
  | .slice none 0 0 => some .nslc
  | .map none => some .nmap
  | .nilFunc => some .nfn
  | .nilIface => some .nifc
  | .func (.func f) ⟨a⟩ ⟨c⟩ => match ofVals a, ofVals c with
    | some a, some c => some (.fn f a c)
    | _, _ => none
  | .iface t v => match ofVal v with
    | some v => some (.ifc t v)
    | none => none
  | .agg ⟨l⟩ => match ofValsF l with
    | some l => some (.agg l)
    | none => none
  | .tuple ⟨l⟩ => match ofVals l with
    | some l => some (.tup l)
    | none => none
  | _ => none
def ofVals : List Value → Option (List V)
  | [] => some []
  | v :: r => match ofVal v, ofVals r with
    | some v, some r => some (v :: r)
    | _, _ => none
def ofValsF : List Value → Option (List V)
  | [] => some []
  | v :: r => match ofVal v, ofValsF r with
    | some v, some r => Bool.rec none (some (v :: r)) v.flat
    | _, _ => none
end

/-! ### types -/
structure Env where
  P : Program
  types : T TypeInfo
  funcs : T Func
  ng : Nat
def Env.of (P : Program) : Env := { P := P, types := T.ofL 11 P.types.toList, funcs := T.ofL 11 P.funcs.toList, ng := P.globals.size }

section
variable {β : Type}
def opdK (E : Env) (x : Operand) (tm : T V) (no : β) (k : V → β) : β :=
  Operand.casesOn (motive := fun _ => T V → β → (V → β) → β) x
    (fun t tm no k => Option.rec no k (tm.get t))
    (fun v _ no k => Option.rec no k (ofVal v))
    (fun g _ no k => Bool.rec no (k (.ptr g 0)) (Nat.ble (Nat.succ g) E.ng))
    (fun f _ _ k => k (.fn f [] [])) tm no k
def opdsK (E : Env) (xs : List Operand) (tm : T V) (no : β) (k : List V → β) : β :=
  List.rec (motive := fun _ => T V → β → (List V → β) → β) (fun _ _ k => k []) (fun x _ ih tm no k => opdK E x tm no fun v => ih tm no fun l => k (v :: l)) xs tm no k
def partsK (E : Env) (ps : List (Nat × Operand)) (tm : T V) (no : β) (k : List (Nat × V) → β) : β :=
  List.rec (motive := fun _ => T V → β → (List (Nat × V) → β) → β) (fun _ _ k => k []) (fun x _ ih tm no k => opdK E x.2 tm no fun v => ih tm no fun l => k ((x.1, v) :: l)) ps tm no k
end

def Env.und (E : Env) (t : TypeId) : Option TypeDesc :=
  match E.types.get t with
  | some i => match i.desc with
    | .named _ u => match E.types.get u with
      | some j => some j.desc
      | none => none
    | d => some d
  | none => none
def Env.size (E : Env) (t : TypeId) : Option Nat := match E.types.get t with
  | some i => some i.size
  | none => none
def Env.zero (E : Env) (t : TypeId) : Option V := match E.types.get t with
  | some i => match i.zero with
    | some v => ofVal v
    | none => none
  | none => none
inductive Wd where
  | no | one | many (n : Nat)
def Env.wd (E : Env) (t : TypeId) : Wd := match E.und t, E.size t with
  | some (.struct _), some k => .many k
  | some (.array _ _), some k => .many k
  | some _, some _ => .one
  | _, _ => .no
inductive El where
  | no | slc (sz : Nat) | arr (len sz : Nat)
def Env.el (E : Env) (t : TypeId) : El := match E.und t with
  | some (.slice e) => match E.size e with
    | some k => .slc k
    | none => .no
  | some (.array n e) => match E.size e with
    | some k => .arr n k
    | none => .no
  | _ => .no
def Env.fieldOff (E : Env) (t : TypeId) (f : Nat) : Option Nat := match E.und t with
  | some (.struct fs) => match fs[f]? with
    | some fl => match E.size fl.type with
      | some (_ + 1) => some fl.offset
      | _ => none
    | none => none
  | _ => none
def Env.zcells (E : Env) (t : TypeId) : Option (List V) := match E.zero t with
  | some z => z.cellsK none some
  | none => none

/-! ### numbers -/
section
variable {β : Type}
def natF (n : Nat) (k : Nat → β) : β := Nat.rec (k 0) (fun m _ => k (Nat.succ m)) n
def intF (n : Int) (k : Int → β) : β := Int.rec (fun n => natF n fun n => k (.ofNat n)) (fun n => natF n fun n => k (.negSucc n)) n
def idxK (i : Int) (n : Nat) (no : β) (k : Nat → β) : β := Int.rec (fun m => Bool.rec no (k m) (Nat.ble (Nat.succ m) n)) (fun _ => no) i
end
def wrapF (k : IntKind) (n : Int) : Int :=
  IntKind.casesOn (motive := fun _ => Int → Int) k (fun n => IntKind.wrap .i8 n) (fun n => IntKind.wrap .i16 n) (fun n => IntKind.wrap .i32 n)
    (fun n => Int.rec (fun m => Bool.rec (IntKind.wrap .i64 (.ofNat m)) (.ofNat m) (Nat.ble m 9223372036854775807)) (fun m => Bool.rec (IntKind.wrap .i64 (.negSucc m)) (.negSucc m) (Nat.ble m 9223372036854775807)) n)
    (fun n => Int.rec (fun m => .ofNat (Nat.mod m 256)) (fun m => IntKind.wrap .u8 (.negSucc m)) n) (fun n => IntKind.wrap .u16 n)
    (fun n => Int.rec (fun m => .ofNat (Nat.mod m 4294967296)) (fun m => IntKind.wrap .u32 (.negSucc m)) n)
    (fun n => Int.rec (fun m => .ofNat (Nat.mod m 18446744073709551616)) (fun m => IntKind.wrap .u64 (.negSucc m)) n) n
def ltI (a b : Int) : Bool := Int.rec (fun m b => Int.rec (fun n => Nat.ble (Nat.succ m) n) (fun _ => false) b) (fun m b => Int.rec (fun _ => true) (fun n => Nat.ble (Nat.succ n) m) b) a b
def eqI (a b : Int) : Bool := Int.rec (fun m b => Int.rec (fun n => Nat.beq m n) (fun _ => false) b) (fun m b => Int.rec (fun _ => false) (fun n => Nat.beq m n) b) a b
def kindN (k : IntKind) : Nat := IntKind.casesOn k 0 1 2 3 4 5 6 7

def bytesLt : List UInt8 → List UInt8 → Bool
  | _, [] => false
  | [], _ :: _ => true
  | a :: x, b :: y => Bool.rec (Bool.rec false (bytesLt x y) (Nat.beq a.toNat b.toNat)) true (Nat.ble (Nat.succ a.toNat) b.toNat)
def bytesEq (a : List UInt8) : List UInt8 → Bool :=
  List.rec (motive := fun _ => List UInt8 → Bool) (fun b => List.rec true (fun _ _ _ => false) b) (fun x _ ih b => List.rec false (fun y r _ => Bool.rec false (ih r) (Nat.beq x.toNat y.toNat)) b) a

mutual
/-- equality of two values of one type -/
def veq : V → V → Option Bool
  | .bool a, .bool b => some (a == b)
  | .int k a, .int k' b => Bool.rec none (some (eqI a b)) (Nat.beq (kindN k) (kindN k'))
  | .str a, .str b => some (bytesEq a b)
  | .nptr, .nptr => some true
  | .nptr, .ptr _ _ => some false
  | .ptr _ _, .nptr => some false
  | .nslc, .nslc => some true
  | .nslc, .slc .. => some false
  | .slc .., .nslc => some false
  | .nmap, .nmap => some true
  | .nmap, .map _ => some false
  | .map _, .nmap => some false
  | .nfn, .nfn => some true
  | .nfn, .fn .. => some false
  | .fn .., .nfn => some false
  | .nifc, .nifc => some true
  | .nifc, .ifc .. => some false
  | .ifc .., .nifc => some false
  | .ptr a o, .ptr b p => Bool.rec none (some true) (and (Nat.beq a b) (Nat.beq o p))
  | .agg xs, .agg ys => veqs xs ys
  | _, _ => none
def veqs : List V → List V → Option Bool
  | [], [] => some true
  | x :: xs, y :: ys => match veq x y with
    | some true => veqs xs ys
    | r => r
  | _, _ => none
end

def arith (f : Int → Int → Int) (k : IntKind) (a b : Int) : Option V := intF (wrapF k (f a b)) fun n => some (.int k n)
def cmpI (f : Int → Int → Bool) (a b : Int) : Option V := Bool.rec (some (.bool false)) (some (.bool true)) (f a b)
/-- the greatest number of a kind -/
def topN (k : IntKind) : Nat := IntKind.casesOn k 127 32767 2147483647 9223372036854775807 255 65535 4294967295 18446744073709551615
def bits (f : Nat → Nat → Nat) (k : IntKind) (a b : Int) : Option V := Int.rec (fun m b => Int.rec (fun n => Bool.rec none (natF (f m n) fun r => some (.int k (.ofNat r))) (and (Nat.ble m (topN k)) (Nat.ble n (topN k)))) (fun _ => none) b) (fun _ _ => none) a b
def binInt (op : BinOp) (k : IntKind) (a b : Int) : Option V :=
  BinOp.casesOn (motive := fun _ => IntKind → Int → Int → Option V) op
    (arith Int.add) (arith Int.sub) (arith Int.mul)
    (fun k a b => if b = 0 then none else arith Int.tdiv k a b) (fun k a b => if b = 0 then none else intF (Int.tmod a b) fun n => some (.int k n))
    (bits Nat.land) (bits Nat.lor) (bits Nat.xor) (fun _ _ _ => none)
    (fun _ _ _ => none) (fun _ _ _ => none)
    (fun _ a b => cmpI eqI a b) (fun _ a b => cmpI (fun a b => not (eqI a b)) a b)
    (fun _ a b => cmpI ltI a b) (fun _ a b => cmpI (fun a b => not (ltI b a)) a b)
    (fun _ a b => cmpI (fun a b => ltI b a) a b) (fun _ a b => cmpI (fun a b => not (ltI a b)) a b) k a b

def shiftInt (left : Bool) (k : IntKind) (a b : Int) : Option V :=
  Int.rec (fun m => Bool.rec (intF (a.fdiv (2 ^ (min m k.bits))) fun n => some (.int k n)) (intF (wrapF k (a * 2 ^ (min m k.bits))) fun n => some (.int k n)) left) (fun _ => none) b
def binRest (op : BinOp) (x y : V) : Option V :=
  match op, x, y with
  | .shl, .int k a, .int _ b => shiftInt true k a b
  | .shr, .int k a, .int _ b => shiftInt false k a b
  | .add, .str a, .str b => if a.length + b.length ≤ 9223372036854775807 then some (.str (a ++ b)) else none
  | .eql, .str a, .str b => some (.bool (bytesEq a b))
  | .neq, .str a, .str b => some (.bool (!bytesEq a b))
  | .lss, .str a, .str b => some (.bool (bytesLt a b))
  | .leq, .str a, .str b => some (.bool (bytesLt a b || bytesEq a b))
  | .gtr, .str a, .str b => some (.bool (!(bytesLt a b || bytesEq a b)))
  | .geq, .str a, .str b => some (.bool (!bytesLt a b))
  | _, _, _ => none
def isShift (op : BinOp) : Bool := BinOp.casesOn op false false false false false false false false true true false false false false false false false

/-! ### parts -/
def partOf (E : Env) (t : TypeId) (cs : List V) (off : Nat) : Option V :=
  match E.wd t with
  | .many k => if off + k ≤ cs.length then some (.agg ((cs.drop off).take k)) else none
  | .one => cs[off]?
  | .no => none
def putAt : List V → Nat → List V → Option (List V)
  | cs, 0, [] => some cs
  | _ :: cs, 0, p :: ps => match putAt cs 0 ps with
    | some l => some (p :: l)
    | none => none
  | c :: cs, n + 1, ps => match putAt cs n ps with
    | some l => some (c :: l)
    | none => none
  | [], _, _ => none
/-- parts laid into cells -/
def fillF (place : Nat → Option (Nat × Nat)) : List V → List (Nat × V) → Option (List V)
  | cs, [] => some cs
  | cs, (i, v) :: r => match place i with
    | some (off, size) => v.cellsK none fun p =>
      Bool.rec none (match putAt cs off p with
        | some cs => fillF place cs r
        | none => none) (Nat.beq p.length size)
    | none => none
def placeS (E : Env) (fs : Array Field) (i : Nat) : Option (Nat × Nat) :=
  match fs[i]? with
  | some f => match E.size f.type with
    | some k => some (f.offset, k)
    | none => none
  | none => none
def repl (n : Nat) (z : List V) : List V := Nat.rec [] (fun _ r => z ++ r) n

/-! ### what is equal, by its type -/
def eqFs (E : Env) (eq : TypeId → V → V → Option Bool) (xs ys : List V) : List Field → Option Bool
  | [] => some true
  | f :: r => if f.name ≠ "_" then
      match partOf E f.type xs f.offset, partOf E f.type ys f.offset with
      | some a, some b => match eq f.type a b with
        | some true => eqFs E eq xs ys r
        | o => o
      | _, _ => none
    else eqFs E eq xs ys r
def eqEs (E : Env) (eq : TypeId → V → V → Option Bool) (e : TypeId) (n : Nat) (xs ys : List V) : Nat → Nat → Option Bool    -- how many more, from which on
  | 0, _ => some true
  | k + 1, i => match partOf E e xs (i * n), partOf E e ys (i * n) with
    | some a, some b => match eq e a b with
      | some true => eqEs E eq e n xs ys k (i + 1)
      | o => o
    | _, _ => none
def eqStep (E : Env) (eq : TypeId → V → V → Option Bool) (t : TypeId) (x y : V) : Option Bool :=
  match E.und t, x, y with
  | some .bool, .bool a, .bool b => some (a == b)
  | some (.int _), .int k a, .int k' b => Bool.rec none (some (eqI a b)) (Nat.beq (kindN k) (kindN k'))
  | some .string, .str a, .str b => some (bytesEq a b)
  | some (.pointer _), .nptr, .nptr => some true
  | some (.pointer _), .nptr, .ptr _ _ => some false
  | some (.pointer _), .ptr _ _, .nptr => some false
  | some (.pointer e), .ptr a o, .ptr b p => match E.size e with
    | some _ => Bool.rec none (some true) (and (Nat.beq a b) (Nat.beq o p))
    | none => none
  | some (.slice _), .nslc, .nslc => some true
  | some (.slice _), .nslc, .slc .. => some false
  | some (.slice _), .slc .., .nslc => some false
  | some (.map _ _), .nmap, .nmap => some true
  | some (.map _ _), .nmap, .map _ => some false
  | some (.map _ _), .map _, .nmap => some false
  | some (.func _ _ _), .nfn, .nfn => some true
  | some (.func _ _ _), .nfn, .fn .. => some false
  | some (.func _ _ _), .fn .., .nfn => some false
  | some (.interface _), .nifc, .nifc => some true
  | some (.interface _), .nifc, .ifc .. => some false
  | some (.interface _), .ifc .., .nifc => some false
  | some (.struct fs), .agg xs, .agg ys => Bool.rec (eqFs E eq xs ys fs.toList) none (E.P.stoodInHeld t)
  | some (.array n e), .agg xs, .agg ys => match E.size e with
    | some k => eqEs E eq e k xs ys n 0
    | none => none
  | _, _, _ => none
def eqT (E : Env) (d : Nat) : TypeId → V → V → Option Bool := Nat.rec (fun _ _ _ => none) (fun _ ih t x y => eqStep E ih t x y) d
def isConst : Operand → Bool
  | .const _ => true
  | _ => false
/-- may the two be compared, as the model guards it? -/
def guardOk (E : Env) (t : TypeId) (x y : Operand) (a b : V) : Bool :=
  match a, b with
  | .nifc, .nifc => isConst x || isConst y
  | .agg _, .agg _ => !(E.P.eqGuardType E.P.depth t)
  | _, _ => true
def eqOp (E : Env) (t : TypeId) (x y : Operand) (a b : V) (yes : Bool) : Option V :=
  Bool.rec none (match eqT E 12 t a b with
    | some r => some (.bool (r == yes))
    | none => none) (guardOk E t x y a b)
def binop (E : Env) (op : BinOp) (t : TypeId) (x y : Operand) (a b : V) : Option V :=
  a.intK (match op, a, b with
      | .eql, .str l, .str m => some (.bool (bytesEq l m))
      | .neq, .str l, .str m => some (.bool (!bytesEq l m))
      | .eql, a, b => eqOp E t x y a b true
      | .neq, a, b => eqOp E t x y a b false
      | op, a, b => binRest op a b)
    fun k m => b.intK none fun k' n =>
    Bool.rec (Bool.rec none (binInt op k m n) (Nat.beq (kindN k) (kindN k'))) (binRest op a b) (isShift op)
def unop (op : UnOp) (x : V) : Option V :=
  match op, x with
  | .neg, .int k n => intF (wrapF k (0 - n)) fun n => some (.int k n)
  | .not, .bool b => Bool.rec (some (.bool true)) (some (.bool false)) b
  | _, _ => none

/-! ### cells -/
def getCells (c : T V) (n : Nat) : Nat → Option (List V) :=
  Nat.rec (motive := fun _ => Nat → Option (List V)) (fun _ => some []) (fun _ ih off => Option.rec none (fun v => Option.rec none (fun l => some (v :: l)) (ih (Nat.succ off))) (c.get off)) n
def setCellsK {β : Type} (l : List V) (c : T V) (off : Nat) (k : T V → β) : β :=
  List.rec (motive := fun _ => T V → Nat → (T V → β) → β) (fun c _ k => k c) (fun v _ ih c off k => c.setK off v fun c' => ih c' (Nat.succ off) k) l c off k
def depthFor (n : Nat) : Nat := Bool.rec (Nat.succ (Nat.log2 (Nat.sub n 1))) 0 (Nat.ble n 1)
def mkCells (l : List V) (n : Nat) : T V := T.ofL (depthFor n) l
/-- a tree that grows as cells are put behind n others -/
def growK {β : Type} (c : T V) (n : Nat) (new : List V) (k : T V → Nat → β) : β :=
  List.rec (motive := fun _ => T V → Nat → (T V → Nat → β) → β) (fun c n k => k c n)
    (fun v _ ih c n k => T.setK (Bool.rec c (.N n c (T.blank (Nat.log2 n))) (Nat.beq (Nat.pow 2 (Nat.log2 n)) n)) n v fun c' => ih c' (Nat.succ n) k) new c n k
section
variable {β : Type}
def O.cellsK (o : O) (no : β) (k : T V → Nat → TypeId → Bool → Bool → Nat → β) : β :=
  O.casesOn (motive := fun _ => β → (T V → Nat → TypeId → Bool → Bool → Nat → β) → β) o (fun c n e op ro fz _ k => k c n e op ro fz) (fun _ _ n _ => n) (fun _ _ n _ => n) (fun _ _ _ _ n _ => n) (fun _ _ _ _ _ _ _ _ _ n _ => n) (fun n _ => n) (fun n _ => n) no k
def H.putK (h : H) (id : Nat) (o : O) (k : H → β) : β :=
  H.casesOn (motive := fun _ => Nat → O → (H → β) → β) h (fun n t l id o k => t.setK id o fun t' => k (.mk n t' (id :: l))) id o k
def H.newK (h : H) (o : O) (k : Nat → H → β) : β :=
  H.casesOn (motive := fun _ => O → (Nat → H → β) → β) h (fun n t l o k => t.setK n o fun t' => k n (.mk (Nat.succ n) t' l)) o k
def G.cellsK (g : G) (id : Nat) (no : β) (k : T V → Nat → TypeId → Bool → Bool → Nat → β) : β :=
  Option.rec no (fun o => o.cellsK no k) (g id)
end
def loadG (w : Wd) (g : G) (id off : Nat) : Option V :=
  g.cellsK id none fun c n _ _ _ _ => Wd.rec (motive := fun _ => T V → Nat → Nat → Option V) (fun _ _ _ => none)
    (fun c n off => Bool.rec none (c.get off) (Nat.ble (Nat.succ off) n))
    (fun m c n off => Bool.rec none (Option.rec none (fun l => some (.agg l)) (getCells c m off)) (Nat.ble (Nat.add off m) n)) w c n off
def allFlat (l : List V) : Bool := List.rec true (fun v _ r => Bool.rec false r v.flat) l
def newCells (l : List V) (el : TypeId) : O := natF l.length fun n => .cells (mkCells l n) n el false false 0

/-! ### maps -/
def findKey (eq : V → V → Option Bool) (k : V) : List (V × V × Nat) → Nat → Option (Option (Nat × V × Nat))
  | [], _ => some none
  | (k', v, b) :: r, i => match eq k k' with
    | some true => some (some (i, v, b))
    | some false => findKey eq k r (i + 1)
    | none => none
def setNth {α : Type} : List α → Nat → α → List α
  | [], _, _ => []
  | _ :: r, 0, v => v :: r
  | x :: r, n + 1, v => x :: setNth r n v
/-- a key that is looked for by comparing alone: a number, a string, a bool; structs and arrays of such -/
def keyFs (E : Env) (ih : TypeId → V → Bool) (cs : List V) : List Field → Bool
  | [] => true
  | f :: r => if f.name ≠ "_" then
      match partOf E f.type cs f.offset with
      | some u => Bool.rec false (keyFs E ih cs r) (ih f.type u)
      | none => false
    else keyFs E ih cs r
def keyEs (E : Env) (ih : TypeId → V → Bool) (e : TypeId) (k : Nat) (cs : List V) : Nat → Nat → Bool
  | 0, _ => true
  | n + 1, i => match partOf E e cs (i * k) with
    | some u => Bool.rec false (keyEs E ih e k cs n (i + 1)) (ih e u)
    | none => false
def keyOk (E : Env) (d : Nat) : TypeId → V → Bool := Nat.rec (fun _ _ => false) (fun _ ih t v => match E.und t with
    | some .bool => true
    | some (.int _) => true
    | some .string => true
    | some (.struct fs) => v.aggK false fun cs => keyFs E ih cs fs.toList
    | some (.array n e) => v.aggK false fun cs => match E.size e with
      | some k => keyEs E ih e k cs n 0
      | none => false
    | _ => false) d

/-! ### slices, strings -/
def inR (i : Option V) (d most : Nat) : Option Nat := match i with
  | none => some d
  | some (.int _ (.ofNat n)) => Bool.rec none (some n) (Nat.ble n most)
  | _ => none
def sliceOp (E : Env) (t : TypeId) (x : V) (lo hi mx : Option V) : Option V :=
  match E.und t, x with
  | some .string, .str s => match mx, inR hi s.length s.length with
    | none, some hh => match inR lo 0 hh with
      | some l => some (.str ((s.drop l).take (hh - l)))
      | none => none
    | _, _ => none
  | some (.slice el), .nslc => match E.size el, inR mx 0 0, inR hi 0 0, inR lo 0 0, mx, hi with
    | some _, some _, some _, some _, some _, none => none
    | some _, some _, some _, some _, _, _ => some .nslc
    | _, _, _, _, _, _ => none
  | some (.slice el), .slc id off len cap =>
    match E.size el with
    | none => none
    | some sz => match cap with
      | .known c => match mx, hi with
        | some _, none => none
        | _, _ => match inR mx c c with
          | some m => match inR hi len m with
            | some hh => match inR lo 0 hh with
              | some l => natF (if m = l then off else off + l * sz) fun o => natF (hh - l) fun n => some (.slc id o n (.known (m - l)))
              | none => none
            | none => none
          | none => none
      | .open_ b => match mx, hi with
        | some _, none => none
        | some _, some _ => match inR mx 0 len with
          | some m => match inR hi len m with
            | some hh => match inR lo 0 hh with
              | some l => natF (if m = l then off else off + l * sz) fun o => natF (hh - l) fun n => some (.slc id o n (.known (m - l)))
              | none => none
            | none => none
          | none => none
        | none, _ => match inR hi len len with
          | some hh => match inR lo 0 hh with
            | some l => if l < len ∨ l = 0 then natF (off + l * sz) fun o => natF (hh - l) fun n => some (.slc id o n (.open_ (b + l))) else some (.slc id (off + l * sz) 0 (.end_ off (b + l)))
            | none => none
          | none => none
      | .end_ o0 b => match mx, inR hi 0 0, inR lo 0 0 with
        | none, some _, some _ => some (.slc id off 0 (.end_ o0 b))
        | _, _, _ => none
  | some (.array n el), .ptr id off => match E.size el with
    | none => none
    | some sz => match mx, hi with
      | some _, none => none
      | _, _ => match inR mx n n with
        | some m => match inR hi n m with
          | some hh => match inR lo 0 hh with
            | some l => natF (if m = l then off else off + l * sz) fun o => natF (hh - l) fun n => some (.slc id o n (.known (m - l)))
            | none => none
          | none => none
        | none => none
  | _, _ => none
def bytesOfCells : List V → Option (List UInt8)
  | [] => some []
  | .int .u8 (.ofNat n) :: r => match bytesOfCells r with
    | some l => some (UInt8.ofNat n :: l)
    | none => none
  | _ => none
def minV (mx : Bool) : V → List V → Option V
  | a, [] => some a
  | .int k x, .int _ y :: r => minV mx (.int k (Bool.rec (Bool.rec x y (ltI y x)) (Bool.rec x y (ltI x y)) mx)) r
  | _, _ => none
def lenV : V → Option Nat
  | .nslc => some 0
  | .slc _ _ n _ => some n
  | .str s => some s.length
  | _ => none
/-- the first n elements' cells -/
def firstG (g : G) (sz n : Nat) : V → Option (List V)
  | .nslc => if n = 0 then some [] else none
  | .slc id off _ _ => g.cellsK id none fun c m _ _ _ _ => if off + n * sz ≤ m then getCells c (n * sz) off else none
  | .str s => some ((s.take n).map fun b => .int .u8 (.ofNat b.toNat))
  | _ => none

end
end Go.Mx

namespace Go.Mx
noncomputable section

abbrev PF := Env → T V → Option V
abbrev RF := Env → T V → G → Option V
abbrev AF := Env → T V → Option (O × (Nat → V))
abbrev XF := Env → T V → H → OpR
inductive Foot where
  | none
  | cells (id off n : Nat)
  | obj (id : Nat)
abbrev FF := Env → T V → Foot

inductive Cls where
  | P (f : PF)
  | R (f : RF) (ft : FF)
  | A (f : AF)
  | X (f : XF)
  | no

def pMove (x : Operand) : PF := fun E tm => opdK E x tm none some
def pPick (c a b : Operand) : PF := fun E tm => opdK E c tm none fun v => v.boolK none fun t => Bool.rec (opdK E b tm none some) (opdK E a tm none some) t
def sizesOk (E : Env) (fs : List Field) : Bool := List.rec true (fun f _ r => Option.rec false (fun _ => r) (E.size f.type)) fs
def pBuild (t : TypeId) (ps : Array (Nat × Operand)) : PF := fun E tm => partsK E ps.toList tm none fun ps => match E.zcells t, E.und t with
    | some z, some (.struct fs) => match fillF (placeS E fs) z ps with
      | some l => Bool.rec none (some (.agg l)) (and (allFlat l) (sizesOk E fs.toList))
      | none => none
    | some z, some (.array _ el) => match E.size el with
      | some sz => match fillF (fun i => some (i * sz, sz)) z ps with
        | some l => Bool.rec none (some (.agg l)) (allFlat l)
        | none => none
      | none => none
    | _, _ => none
def pNilCheck (x : Operand) : PF := fun E tm => opdK E x tm none fun v => match v with
    | .ptr id off => some (.ptr id off)
    | .fn f a c => some (.fn f a c)
    | _ => none
def pBin (op : BinOp) (t : TypeId) (x y : Operand) : PF := fun E tm => opdK E x tm none fun a => opdK E y tm none fun b => binop E op t x y a b
def pUn (op : UnOp) (x : Operand) : PF := fun E tm => opdK E x tm none fun a => unop op a
def pMkIface (t : TypeId) (x : Operand) : PF := fun E tm => opdK E x tm none fun v => match E.und t with
    | some (.interface _) => none
    | some _ => some (.ifc t v)
    | none => none
def pMkFunc (fn : Fn) (a c : Array Operand) : PF := fun E tm => match fn with
    | .func f => opdsK E a.toList tm none fun a => opdsK E c.toList tm none fun c => some (.fn f a c)
    | _ => none
def optV (E : Env) (x : Option Operand) (tm : T V) : Option (Option V) := match x with
  | none => some none
  | some x => opdK E x tm none fun v => some (some v)
def pSlice (t : TypeId) (x : Operand) (lo hi mx : Option Operand) : PF := fun E tm => opdK E x tm none fun v => match optV E lo tm, optV E hi tm, optV E mx tm with
    | some lo, some hi, some mx => sliceOp E t v lo hi mx
    | _, _, _ => none
def pFieldAddr (t : TypeId) (x : Operand) (f : Nat) : PF := fun E tm => opdK E x tm none fun v => v.ptrK none fun id off => Option.rec none (fun o => natF (Nat.add off o) fun o => some (.ptr id o)) (E.fieldOff t f)
def pField (t : TypeId) (x : Operand) (f : Nat) : PF := fun E tm => opdK E x tm none fun v => v.aggK none fun cs => match E.und t with
    | some (.struct fs) => match fs[f]? with
      | some fl => partOf E fl.type cs fl.offset
      | none => none
    | _ => none
def pIndexAddr (t : TypeId) (x i : Operand) : PF := fun E tm => opdK E x tm none fun v => opdK E i tm none fun i => i.intK none fun _ n =>
  El.rec (motive := fun _ => V → Int → Option V) (fun _ _ => none)
    (fun sz v n => v.slcK none fun id off len _ => idxK n len none fun j => natF (Nat.add off (Nat.mul j sz)) fun o => some (.ptr id o))
    (fun len sz v n => v.ptrK none fun id off => idxK n len none fun j => natF (Nat.add off (Nat.mul j sz)) fun o => some (.ptr id o)) (E.el t) v n
def pIndex (t : TypeId) (x i : Operand) : PF := fun E tm => opdK E x tm none fun v => opdK E i tm none fun i => i.intK none fun _ n => match v, E.und t with
    | .agg cs, some (.array len el) => match E.size el with
      | some sz => idxK n len none fun j => partOf E el cs (j * sz)
      | none => none
    | .str l, some .string => Int.rec (fun m => match l[m]? with
      | some b => natF b.toNat fun b => some (.int .u8 (.ofNat b))
      | none => none) (fun _ => none) n
    | _, _ => none
def pTypeAssert (x : Operand) (a : TypeId) (ok : Bool) : PF := fun E tm => opdK E x tm none fun v => match v, E.und a with
    | _, some (.interface _) => none
    | .ifc t v, some _ => Bool.rec (Bool.rec none (match E.zero a with
        | some z => some (.tup [z, .bool false])
        | none => none) ok) (some (Bool.rec v (.tup [v, .bool true]) ok)) (Nat.beq t a)
    | .nifc, some _ => Bool.rec none (match E.zero a with
        | some z => some (.tup [z, .bool false])
        | none => none) ok
    | _, _ => none
def pExtract (t : Operand) (i : Nat) : PF := fun E tm => opdK E t tm none fun v => match v with
    | .tup vs => vs[i]?
    | _ => none
/-- conversions of values -/
def pConvert (src dst : TypeId) (x : Operand) : PF := fun E tm => opdK E x tm none fun v => match E.und src, E.und dst, v with
  | some _, some (.int k), .int _ n => intF (wrapF k n) fun n => some (.int k n)
  | some _, some .string, .int _ n => some (.str (Utf8.encode n).data.toList)
  | some _, some .string, .str s => some (.str s)
  | _, _, _ => none
def pMin (mx : Bool) (args : Array Operand) : PF := fun E tm => opdsK E args.toList tm none fun l => match l with
  | a :: r => match a with
    | .int k n => minV mx (.int k n) r
    | _ => none
  | [] => none

def rLoad (t : TypeId) (a : Operand) : RF := fun E tm g => opdK E a tm none fun v => v.ptrK none fun id off => loadG (E.wd t) g id off
def fLoad (t : TypeId) (a : Operand) : FF := fun E tm => opdK E a tm .none fun v => v.ptrK .none fun id off => .cells id off (Wd.rec 0 1 (fun n => n) (E.wd t))
def findIn (eq : V → V → Option Bool) (g : G) (m k : V) : Option (Option (Nat × V × Nat)) := match m with
  | .nmap => some none
  | .map id => match g id with
    | some (.map es _) => findKey eq k es 0
    | _ => none
  | _ => none
def rLookup (t : TypeId) (x k : Operand) (ok : Bool) : RF := fun E tm g => opdK E x tm none fun m => opdK E k tm none fun k => match E.und t with
    | some (.map key el) => Bool.rec none (
      match findIn (eqT E 12 key) g m k with
      | some (some (_, v, _)) => some (Bool.rec v (.tup [v, .bool true]) ok)
      | some none => match E.zero el with
        | some z => some (Bool.rec z (.tup [z, .bool false]) ok)
        | none => none
      | none => none) (keyOk E 6 key k)
    | _ => none
def footOf (v : V) : Foot := match v with
  | .map id => .obj id
  | .slc id off n _ => .cells id off n
  | _ => .none
def fObj (x : Operand) : FF := fun E tm => opdK E x tm .none footOf
def rLen (t : TypeId) (x : Operand) : RF := fun E tm g => opdK E x tm none fun v => match E.und t, v with
    | some (.slice _), .nslc => some (.int .i64 0)
    | some (.slice _), .slc _ _ n _ => some (.int .i64 (.ofNat n))
    | some .string, .str s => natF s.length fun n => some (.int .i64 (.ofNat n))
    | some (.array n _), _ => some (.int .i64 (.ofNat n))
    | some (.map _ _), .nmap => some (.int .i64 0)
    | some (.map _ _), .map id => match g id with
      | some (.map es _) => natF es.length fun n => some (.int .i64 (.ofNat n))
      | _ => none
    | _, _ => none
/-- bytes as a string -/
def rToStr (x : Operand) : RF := fun E tm g => opdK E x tm none fun v => match v with
  | .nslc => some (.str [])
  | .slc id off n _ => g.cellsK id none fun c m _ _ _ _ => match (if off + n ≤ m then getCells c n off else none) with
      | some l => match bytesOfCells l with
        | some s => some (.str s)
        | none => none
      | none => none
  | _ => none

def aAlloc (t : TypeId) : AF := fun E _ => match E.zcells t with
  | some cs => Bool.rec none (some (newCells cs t, fun id => .ptr id 0)) (allFlat cs)
  | none => none
def aBox (t : TypeId) (x : Operand) : AF := fun E tm => opdK E x tm none fun v => v.cellsK none fun cs => some (newCells cs t, fun id => .ptr id 0)
def aBuildSlice (t : TypeId) (len : Nat) (ps : Array (Nat × Operand)) : AF := fun E tm => partsK E ps.toList tm none fun ps => match E.und t with
    | some (.slice el) => match E.size el, E.zcells el with
      | some sz, some z => Bool.rec none (match fillF (fun i => some (i * sz, sz)) (repl len z) ps with
        | some cs => Bool.rec none (some (newCells cs el, fun id => .slc id 0 len (.known len))) (allFlat cs)
        | none => none) (and (Nat.beq z.length sz) (and (Nat.ble (len * sz) 16777216) (not (Nat.beq sz 0))))
      | _, _ => none
    | _ => none
def aMkMap (t : TypeId) (r : Option Operand) : AF := fun E tm => match r with
  | none => some (.map [] 0, .map)
  | some x => opdK E x tm none fun v => v.intK none fun _ _ => match E.und t with
    | some (.map _ _) => some (.map [] 0, .map)
    | _ => none
def aMkSlice (t : TypeId) (l c : Operand) : AF := fun E tm => opdK E l tm none fun l => opdK E c tm none fun c => match l, c, E.und t with
    | .int _ (.ofNat l), .int _ (.ofNat c), some (.slice el) => match E.types.get el, E.zcells el with
      | some i, some z => Bool.rec none (some (newCells (repl c z) el, fun id => .slc id 0 l (.known c)))
        (and (Nat.ble l c) (and (Nat.ble c 1000000) (and (Nat.beq z.length i.size) (and (Nat.ble i.bytes 1000000) (and (allFlat z) (not (Nat.beq i.size 0)))))))
      | _, _ => none
    | _, _, _ => none

def xStore (t : TypeId) (a x : Operand) : XF := fun E tm h => opdK E a tm .no fun p => opdK E x tm .no fun v => p.ptrK .no fun id off => Option.rec .no (fun m =>
  G.cellsK h.get id .no fun c n el op ro fz => v.cellsK .no fun cs =>
    Bool.rec .no (setCellsK cs c off fun c' => h.putK id (.cells c' n el op ro fz) .skip)
      (and (Nat.beq cs.length m) (and (Nat.ble (Nat.add off m) n) (and (Nat.ble fz off) (not ro))))) (E.size t)

def capLo (c : Cap) : Nat := Cap.casesOn c (fun _ => 0) (fun lo => lo) (fun _ lo => lo)
def xAppend (E : Env) (h : H) (el : TypeId) (sz : Nat) (s : V) (k : Nat) (new : List V) : OpR :=
  match s with
  | .nslc =>
    Bool.rec (natF (k * sz) fun n' => h.newK (.cells (mkCells new n') n' el true false 0) fun id h' => .val (.slc id 0 k (.open_ 0)) h') (.val .nslc h) (Nat.beq k 0)
  | .slc id off len cap =>
    G.cellsK h.get id .no fun c n el' op ro fz =>
      match cap with
      | .known m =>
        Bool.rec
          (match (if off + len * sz ≤ n then getCells c (len * sz) off else none) with
          | some old => natF (len * sz + k * sz) fun n' => natF (len + k) fun len' => h.newK (.cells (mkCells (old ++ new) n') n' el true false 0) fun id' h' => .val (.slc id' 0 len' (.open_ 0)) h'
          | none => .no)
          (Bool.rec (Bool.rec .no (setCellsK new c (off + len * sz) fun c' => h.putK id (.cells c' n el' op ro fz) fun h' => natF (len + k) fun len' => .val (.slc id off len' cap) h')
              (and (Nat.ble (off + len * sz + k * sz) n) (and (Nat.ble fz (off + len * sz)) (not ro))))
            (.val s h) (Nat.beq k 0))
          (Nat.ble (len + k) m)
      | _ =>
        Bool.rec
          (Bool.rec .no
            (natF (len + k) fun len' => Bool.rec
              (match getCells c (len * sz) off with
              | some old => natF (len * sz + k * sz) fun n' => natF (fz - off) fun z => h.putK id .dead fun h' => h'.newK (.cells (mkCells (old ++ new) n') n' el true false z) fun id' h'' => .val (.slc id' 0 len' (.open_ 0)) h''
              | none => .no)
              (growK c n new fun c' n' => h.putK id .dead fun h' => h'.newK (.cells c' n' el true false fz) fun id' h'' => .val (.slc id' 0 len' (.open_ 0)) h'')
              (and (Nat.beq off 0) (Nat.beq (len * sz) n)))
            (and op (and (not ro) (and (Nat.beq el el') (and (Nat.ble fz (off + len * sz)) (and (Nat.beq off (capLo cap * sz)) (Nat.ble (off + len * sz) n)))))))
          (.val s h) (Nat.beq k 0)
  | _ => .no
def seqTy (d : TypeDesc) : Bool := match d with
  | .slice _ => true
  | .string => true
  | _ => false
def xCallAppend (tys : Array TypeId) (args : Array Operand) : XF := fun E tm h => opdsK E args.toList tm .no fun args => match args, tys.toList with
  | [s, x], [t, t'] => match E.und t, E.und t' with
    | some (.slice el), some d => match seqTy d, E.types.get el, lenV x, E.zcells el with
      | true, some i, some k, some z => match firstG h.get i.size k x with
        | some new => Bool.rec .no (xAppend E h el i.size s k new) (and (Nat.beq new.length (k * i.size)) (and (Nat.beq z.length i.size) (and (not (Nat.beq i.size 0)) (and (not (Nat.beq i.bytes 0)) (and (Nat.ble i.bytes 1000000) (Nat.ble (Nat.add k (Option.rec 0 (fun n => n) (lenV s))) 1000000))))))
        | none => .no
      | _, _, _, _ => .no
    | _, _ => .no
  | _, _ => .no
def xCopy (tys : Array TypeId) (args : Array Operand) : XF := fun E tm h => opdsK E args.toList tm .no fun args => match args, tys.toList with
  | [d, x], t :: _ => match E.und t with
    | some (.slice el) => match E.size el, lenV d, lenV x with
      | some sz, some m, some k => natF (min k m) fun n => match firstG h.get sz n x with
        | some new => match d with
          | .nslc => .val (.int .i64 (.ofNat n)) h
          | .slc id off _ _ => G.cellsK h.get id .no fun c cn cel op ro fz =>
              Bool.rec .no (setCellsK new c off fun c' => h.putK id (.cells c' cn cel op ro fz) fun h' => .val (.int .i64 (.ofNat n)) h')
                (and (Nat.ble (off + new.length) cn) (and (Nat.ble fz off) (not ro)))
          | _ => .no
        | none => .no
      | _, _, _ => .no
    | _ => .no
  | _, _ => .no
/-- two keys that are alike, bit for bit -/
def same1 : V → V → Bool
  | .bool a, .bool b => a == b
  | .int k a, .int k' b => and (Nat.beq (kindN k) (kindN k')) (eqI a b)
  | .str a, .str b => bytesEq a b
  | _, _ => false
def sameL : List V → List V → Bool
  | [], [] => true
  | a :: r, b :: q => and (same1 a b) (sameL r q)
  | _, _ => false
def sameV : V → V → Bool
  | .agg xs, .agg ys => sameL xs ys
  | a, b => same1 a b
def sameAt (es : List (V × V × Nat)) (i : Nat) (k : V) : Bool := match es[i]? with
  | some e => sameV e.1 k
  | none => false
def xMapUpdate (t : TypeId) (m k x : Operand) : XF := fun E tm h => opdK E m tm .no fun m => opdK E k tm .no fun k => opdK E x tm .no fun v => match m, E.und t with
    | .map id, some (.map key _) => match h.get id with
      | some (.map es c) => Bool.rec .no (match findKey (eqT E 12 key) k es 0 with
        | some (some (i, _, b)) => Bool.rec .no (h.putK id (.map (setNth es i (k, v, b)) c) .skip) (sameAt es i k)
        | some none => natF (c + 1) fun c' => h.putK id (.map (es ++ [(k, v, c)]) c') .skip
        | none => .no) (keyOk E 6 key k)
      | _ => .no
    | _, _ => .no
def xMapEntry (t : TypeId) (m k : Operand) : XF := fun E tm h => opdK E m tm .no fun m => opdK E k tm .no fun k => match m, E.und t with
    | .map id, some (.map key el) => match h.get id with
      | some (.map es c) => Bool.rec .no (match findKey (eqT E 12 key) k es 0 with
        | some (some (i, v, b)) => Bool.rec .no (h.putK id (.map (setNth es i (k, v, b)) c) fun h' => .val (.tup [v, .int .i64 (.ofNat b)]) h') (sameAt es i k)
        | some none => match E.zero el with
          | some z => natF (c + 1) fun c' => h.putK id (.map (es ++ [(k, z, c)]) c') fun h' => .val (.tup [z, .int .i64 (.ofNat c)]) h'
          | none => .no
        | none => .no) (keyOk E 6 key k)
      | _ => .no
    | _, _ => .no
def findBorn (b : Nat) : List (V × V × Nat) → Nat → Option (Nat × V × V)
  | [], _ => none
  | e :: r, i => Bool.rec (findBorn b r (i + 1)) (some (i, e.1, e.2.1)) (Nat.beq e.2.2 b)
def xEntryStore (m st x : Operand) : XF := fun E tm h => opdK E m tm .no fun m => opdK E st tm .no fun b => opdK E x tm .no fun v => match m, b with
    | .map id, .int _ (.ofNat b) => match h.get id with
      | some (.map es c) => match findBorn b es 0 with
        | some (i, k, _) => h.putK id (.map (setNth es i (k, v, b)) c) .skip
        | none => .no
      | _ => .no
    | _, _ => .no
def xRange (t : TypeId) (x : Operand) : XF := fun E tm h => opdK E x tm .no fun v => match v, E.und t with
    | .str l, some .string => h.newK (.siter l 0) fun id h' => .val (.ptr id 0) h'
    | .nmap, some (.map ..) => h.newK (.miter none 0 [] 0) fun id h' => .val (.ptr id 0) h'
    | .map m, some (.map ..) => match h.get m with
      | some (.map _ c) => h.newK (.miter (some m) c [] c) fun id h' => .val (.ptr id 0) h'
      | _ => .no
    | _, _ => .no
/-- the entries that a map's iterator may come to next; none: they can't be told -/
def leftOf (g : G) (id : Nat) : Option (Nat × Nat × List Nat × Nat × List (V × V × Nat)) :=
  match g id with
  | some (.miter (some m) since seen last) => match g m with
    | some (.map es c) => Bool.rec none (some (m, since, seen, c, es.filter fun e => !seen.contains e.2.2)) (and (and (Nat.beq c last) (Nat.beq c since)) (es.all fun e => Nat.ble (Nat.succ e.2.2) c))
    | _ => none
  | _ => none
def xNext (it : Operand) (isS : Bool) : XF := fun E tm h => opdK E it tm .no fun v => match v with
    | .ptr id off => Bool.rec .no (match h.get id, isS with
      | some (.siter l pos), true =>
        Bool.rec (.val (.tup [.bool false]) h) (match l[pos]? with
          | some b => Bool.rec .no (natF (pos + 1) fun p => h.putK id (.siter l p) fun h' => .val (.tup [.bool true, .int .i64 (.ofNat pos), .int .i32 (.ofNat b.toNat)]) h') (Nat.ble (Nat.succ b.toNat) 128)
          | none => .no) (Nat.ble (Nat.succ pos) l.length)
      | some (.miter none _ _ _), false => .val (.tup [.bool false]) h
      | _, false => match leftOf h.get id with
        | some (m, since, seen, c, left) => match left with
          | [] => .val (.tup [.bool false]) h
          | [e] => h.putK id (.miter (some m) since (seen ++ [e.2.2]) c) fun h' => .val (.tup [.bool true, e.1, e.2.1]) h'
          | _ => .no
        | none => .no
      | _, _ => .no) (Nat.beq off 0)
    | _ => .no
def xEntry (it : Operand) : XF := fun E tm h => opdK E it tm .no fun v => match v with
    | .ptr id off => Bool.rec .no (match h.get id with
      | some (.miter (some m) _ seen last) => match seen.getLast?, h.get m with
        | some b, some (.map es c) => Bool.rec .no (match findBorn b es 0 with
          | some (_, k, v) => .val (.tup [k, v]) h
          | none => .no) (Nat.beq c last)
        | _, _ => .no
      | _ => .no) (Nat.beq off 0)
    | _ => .no
/-- a string's bytes in a new block; pointers to memory and back -/
def xConvert (src dst : TypeId) (x : Operand) : XF := fun E tm h => opdK E x tm .no fun v => match E.und src, E.und dst, v with
  | some .string, some (.slice e), .str s => match E.und e, E.size e with
    | some (.int .u8), some 1 => natF s.length fun n => h.newK (.cells (mkCells (s.map fun b => .int .u8 (.ofNat b.toNat)) n) n e true false 0) fun id h' => .val (.slc id 0 n (.open_ 0)) h'
    | _, _ => .no
  | some (.slice _), some (.slice e), .slc id off n cap => G.cellsK h.get id .no fun c m el op ro fz => match E.und e with
    | some (.int .u8) => Bool.rec .no (h.putK id (.cells c m el op ro m) fun h' => .val (.slc id off n cap) h') (and (not op) (and (not ro) (Nat.beq src dst)))
    | _ => .no
  | some (.pointer t), some .unsafePointer, .ptr id off => G.cellsK h.get id .no fun _ n _ op ro _ => match E.size t with
    | some (_ + 1) => Bool.rec .no (.val (.ptr id off) h) (and (not op) (and (not ro) (Nat.ble (Nat.succ off) n)))
    | _ => .no
  | some .unsafePointer, some (.pointer u), .ptr id off => G.cellsK h.get id .no fun _ n el op ro _ =>
    Option.rec .no (fun _ => Bool.rec .no (.val (.ptr id off) h) (and (not op) (and (not ro) (liesAt E.P E.P.depth el (n / E.P.cellsOf el) off u 1)))) (E.size u)
  | _, _, _ => .no
def xSliceData (args : Array Operand) : XF := fun E tm h => opdsK E args.toList tm .no fun args => match args with
  | [.nslc] => .val .nptr h
  | [.slc id off len (.open_ _)] => Bool.rec (.val (.ptr id off) h) .no (Nat.beq len 0)
  | [.slc id off _ (.known c)] => Bool.rec (.val (.ptr id off) h) .no (Nat.beq c 0)
  | _ => .no
def xString (tys : Array TypeId) (args : Array Operand) : XF := fun E tm h => opdsK E args.toList tm .no fun args => match args, tys.toList with
  | [.nptr, .int _ (.ofNat n)], _ :: _ => Bool.rec .no (.val (.str []) h) (Nat.beq n 0)
  | [.ptr id off, .int _ (.ofNat n)], t :: _ => Bool.rec (G.cellsK h.get id .no fun c m el op ro fz => match E.und t with
      | some (.pointer u) => match getCells c n off with
        | some l => match bytesOfCells l with
          | some s => Bool.rec .no (h.putK id (.cells c m el op true fz) fun h' => .val (.str s) h')
              (and (not ro) (and (Nat.beq el u) (and (and (Nat.ble (off + n) m) (Nat.ble n 9223372036854775807)) (match E.und el, E.size el with
                | some (.int .u8), some 1 => true
                | _, _ => false))))
          | none => .no
        | none => .no
      | _ => .no) (.val (.str []) h) (Nat.beq n 0)
  | _, _ => .no
/-- functions without a body -/
def xExtern (fn : Func) (h : H) (args : List V) : OpR :=
  match args with
  | [x] => if fn.name = "internal/abi.NoEscape" ∧ fn.origin = "" then .val x h else .no
  | _ => .no
def xEnter (E : Env) (h : H) (f : FuncId) (args : List V) : OpR :=
  Option.rec .no (fun fn => Option.rec (xExtern fn h args) (fun _ => .enter f args h) fn.body) (E.funcs.get f)
def xCall (f : Operand) (args : Array Operand) : XF := fun E tm h => opdK E f tm .no fun f => opdsK E args.toList tm .no fun args => match f with
    | .fn f first caps => xEnter E h f (first ++ (args ++ caps))
    | .yld l => .round l args h
    | _ => .no
def xPanic (x : Operand) : XF := fun E tm h => opdK E x tm .no fun v => match v with
    | .ifc t v => .pan (.ifc t v) h
    | _ => .no

def clsConvert (E : Env) (src dst : TypeId) (x : Operand) : Cls := match E.und src, E.und dst with
  | some .string, some (.slice _) => .X (xConvert src dst x)
  | some (.slice e), some .string => match E.und e with
    | some (.int .u8) => .R (rToStr x) (fObj x)
    | _ => .no
  | some (.pointer _), some .unsafePointer => .X (xConvert src dst x)
  | some .unsafePointer, some (.pointer _) => .X (xConvert src dst x)
  | some (.slice _), some (.slice _) => .X (xConvert src dst x)
  | some .unsafePointer, _ => .no
  | _, some .unsafePointer => .no
  | some _, some _ => .P (pConvert src dst x)
  | _, _ => .no
def clsBuiltin (b : Builtin) (tys : Array TypeId) (args : Array Operand) : Cls := match b with
  | .len => match args.toList, tys.toList with
    | [x], [t] => .R (rLen t x) (fObj x)
    | _, _ => .no
  | .append => .X (xCallAppend tys args)
  | .copy => .X (xCopy tys args)
  | .min => .P (pMin false args)
  | .max => .P (pMin true args)
  | .unsafeSliceData => .X (xSliceData args)
  | .unsafeString => .X (xString tys args)
  | _ => .no
def clsCall (c : Call) : Cls :=
  Callee.casesOn (motive := fun _ => Call → Cls) c.callee (fun f c => .X (xCall f c.args)) (fun _ _ _ => .no) (fun b c => clsBuiltin b c.argTypes c.args) c

def cls (E : Env) (op : Op) : Cls :=
  Op.casesOn (motive := fun _ => Env → Cls) op
    (fun x _ => .P (pMove x)) (fun x _ => .P (pMove x)) (fun c a b _ => .P (pPick c a b)) (fun t _ => .A (aAlloc t)) (fun t x _ => .A (aBox t x)) (fun t ps _ => .P (pBuild t ps)) (fun t n ps _ => .A (aBuildSlice t n ps))
    (fun t m k v _ => .X (xMapUpdate t m k v)) (fun t a _ => .R (rLoad t a) (fLoad t a)) (fun t a x _ => .X (xStore t a x)) (fun _ _ => .no) (fun _ _ => .no) (fun x _ => .P (pNilCheck x))
    (fun op t x y _ _ => .P (pBin op t x y)) (fun op _ x _ => .P (pUn op x)) (fun s d x E => clsConvert E s d x) (fun _ _ _ => .no) (fun t x _ => .P (pMkIface t x)) (fun f a c _ => .P (pMkFunc f a c)) (fun t r _ => .A (aMkMap t r)) (fun _ _ _ => .no)
    (fun t l c _ => .A (aMkSlice t l c)) (fun t x lo hi mx _ => .P (pSlice t x lo hi mx)) (fun t x f _ => .P (pFieldAddr t x f)) (fun t x f _ => .P (pField t x f)) (fun t x i _ => .P (pIndexAddr t x i)) (fun t x i _ => .P (pIndex t x i)) (fun t x k ok _ => .R (rLookup t x k ok) (fObj x))
    (fun t m k v _ => .X (xMapUpdate t m k v)) (fun t m k _ => .X (xMapEntry t m k)) (fun _ m s v _ => .X (xEntryStore m s v)) (fun t x _ => .X (xRange t x)) (fun it s _ => .X (xNext it s)) (fun it _ => .X (xEntry it)) (fun x _ a ok _ => .P (pTypeAssert x a ok)) (fun t i _ => .P (pExtract t i))
    (fun c _ => clsCall c) (fun _ _ => .no) (fun _ _ => .no) (fun x _ => .X (xPanic x)) (fun _ _ _ => .no) (fun _ _ _ _ => .no) (fun _ _ _ => .no) E

end
end Go.Mx

namespace Go.Mx
noncomputable section

/-- what a frame has to do at its end: a loop's mark -/
inductive Df where
  | mark (id : Nat)
inductive Out where
  | normal
  | exit (id : Nat)
  | ret
  | pan (v : V)
inductive St where
  | mk (n : Nat) (tm : T V) (h : H) (df : List Df)
inductive Res where
  | no (w : String)
  | ok (o : Out) (s : St)
inductive FRes where
  | no (w : String)
  | ret (v : V) (h : H)
  | pan (v : V) (h : H)
/-- calls (false), rounds of a loop (true) -/
abbrev CallF := Bool → Nat → List V → H → FRes

def putK (dst : Option Tmp) (v : V) (h : H) (s : St) (k : St → Res) : Res :=
  St.casesOn (motive := fun _ => Option Tmp → V → H → (St → Res) → Res) s (fun n tm _ df dst v h k => Option.rec (k (.mk n tm h df)) (fun d => Bool.rec (k (.mk n tm h df)) (tm.setK d v fun tm' => k (.mk n tm' h df)) (Nat.ble (Nat.succ d) n)) dst) dst v h k

def afterCall (r : FRes) (o : Oper) (s : St) (rest : St → Res) : Res :=
  FRes.casesOn (motive := fun _ => Oper → St → (St → Res) → Res) r (fun w _ _ _ => .no w) (fun v h o s rest => putK o.dst v h s rest) (fun v h _ s _ => St.casesOn s fun n tm _ df => .ok (.pan v) (.mk n tm h df)) o s rest
def afterX (r : OpR) (call : CallF) (o : Oper) (s : St) (rest : St → Res) : Res :=
  OpR.casesOn (motive := fun _ => CallF → Oper → St → (St → Res) → Res) r (fun _ o _ _ => .no o.pos) (fun v h _ o s rest => putK o.dst v h s rest) (fun h _ o s rest => putK o.dst und h s rest)
    (fun f args h call o s rest => afterCall (call false f args h) o s rest) (fun l args h call o s rest => afterCall (call true l args h) o s rest)
    (fun v h _ _ s _ => St.casesOn s fun n tm _ df => .ok (.pan v) (.mk n tm h df)) call o s rest
def opRun (E : Env) (call : CallF) (o : Oper) (rest : St → Res) (s : St) : Res :=
  Cls.casesOn (motive := fun _ => Env → CallF → Oper → (St → Res) → St → Res) (cls E o.op)
    (fun f E _ o rest s => St.casesOn (motive := fun _ => St → Res) s (fun _ tm h _ s => Option.rec (.no o.pos) (fun v => putK o.dst v h s rest) (f E tm)) s)
    (fun f _ E _ o rest s => St.casesOn (motive := fun _ => St → Res) s (fun _ tm h _ s => Option.rec (.no o.pos) (fun v => putK o.dst v h s rest) (f E tm h.get)) s)
    (fun f E _ o rest s => St.casesOn (motive := fun _ => St → Res) s (fun _ tm h _ s => Option.rec (.no o.pos) (fun p => h.newK p.1 fun id h' => putK o.dst (p.2 id) h' s rest) (f E tm)) s)
    (fun f E call o rest s => St.casesOn (motive := fun _ => St → Res) s (fun _ tm h _ s => afterX (f E tm h) call o s rest) s)
    (fun _ _ o _ _ => .no o.pos) E call o rest s
def dstOf (all : List Oper) (j : Nat) : Option Tmp := match all[j]? with
  | some o => o.dst
  | none => none
def wanted (all : List Oper) (g : Nat × Bool) (s : St) : Bool :=
  match dstOf all g.1 with
    | some d => St.casesOn s fun _ tm _ _ => Option.rec false (fun v => v.boolK false fun b => Bool.rec (Bool.rec true false b) b g.2) (tm.get d)
    | none => false
/-- is it known whether it is wanted? -/
def wantedOk (all : List Oper) (g : Nat × Bool) (s : St) : Bool :=
  match dstOf all g.1 with
    | some d => St.casesOn s fun n tm _ _ => and (Nat.ble (Nat.succ d) n) (Option.rec false (fun _ => true) (tm.get d))
    | none => true
def unwant (o : Oper) (rest : St → Res) (s : St) : Res := St.casesOn (motive := fun _ => St → Res) s (fun _ _ h _ s => putK o.dst und h s rest) s
def opsR (E : Env) (call : CallF) (all : List Oper) (l : List Oper) : St → Res :=
  List.rec (motive := fun _ => St → Res) (fun s => .ok .normal s)
    (fun o _ rest s => Option.rec (opRun E call o rest s) (fun g => Bool.rec (.no o.pos) (Bool.rec (unwant o rest s) (opRun E call o rest s) (wanted all g s)) (wantedOk all g s)) o.guard) l

/-! ### regions that draw their order -/
def binds (e : Edge) : Bool := match e.ground with
  | .textOnly _ => false
  | .gcOnly _ => false
  | _ => true
def maskOf (ms : List Nat) (o : Oper) : Nat := o.after.toList.foldl (fun s e => Bool.rec s (Nat.lor (Nat.lor s (Nat.shiftLeft 1 e.on)) (ms.getD e.on 0)) (binds e)) 0
/-- of each operation, all that stand before it -/
def masks (l : List Oper) : List Nat := l.foldl (fun ms o => natF (maskOf ms o) fun m => ms ++ [m]) []
def isX (E : Env) (o : Oper) : Bool := Cls.casesOn (cls E o.op) (fun _ => false) (fun _ _ => false) (fun _ => false) (fun _ => true) true
mutual
def veqv : V → V → Bool
  | .bool a, .bool b => a == b
  | .int k a, .int l b => and (Nat.beq (kindN k) (kindN l)) (eqI a b)
  | .str a, .str b => bytesEq a b
  | .nptr, .nptr => true
  | .ptr a b, .ptr c d => and (Nat.beq a c) (Nat.beq b d)
  | .nslc, .nslc => true
  | .slc a b c (.known x), .slc e f g (.known y) => and (and (Nat.beq a e) (Nat.beq b f)) (and (Nat.beq c g) (Nat.beq x y))
  | .slc a b c (.open_ x), .slc e f g (.open_ y) => and (and (Nat.beq a e) (Nat.beq b f)) (and (Nat.beq c g) (Nat.beq x y))
  | .nmap, .nmap => true
  | .map a, .map b => Nat.beq a b
  | .fn f a b, .fn g c d => and (Nat.beq f g) (and (veqvs a c) (veqvs b d))
  | .nfn, .nfn => true
  | .ifc t v, .ifc u w => and (Nat.beq t u) (veqv v w)
  | .nifc, .nifc => true
  | .agg a, .agg b => veqvs a b
  | .tup a, .tup b => veqvs a b
  | _, _ => false
def veqvs : List V → List V → Bool
  | [], [] => true
  | a :: r, b :: q => and (veqv a b) (veqvs r q)
  | _, _ => false
end
def teqv : T V → T V → Bool
  | .E, .E => true
  | .L x, .L y => veqv x y
  | .N h l r, .N h' l' r' => and (Nat.beq h h') (and (teqv l l') (teqv r r'))
  | _, _ => false
def beqB (a b : Bool) : Bool := Bool.rec (not b) b a
def oeq : O → O → Bool
  | .cells c n el op ro fz, .cells c' n' el' op' ro' fz' => and (and (Nat.beq n n') (and (Nat.beq el el') (Nat.beq fz fz'))) (and (and (beqB op op') (beqB ro ro')) (teqv c c'))
  | .map [] c, .map [] c' => Nat.beq c c'
  | _, _ => false

def has (m i : Nat) : Bool := Nat.beq (Nat.land (Nat.shiftRight m i) 1) 1
def bit (i : Nat) : Nat := Nat.shiftLeft 1 i
def sub (a b : Nat) : Bool := Nat.beq (Nat.land a b) a
/-- an order in which all that can be done is done before something acts -/
def orderG (ms : List Nat) (js : List Nat) (xm p : Nat) : List Nat := js.filter fun j => Nat.beq (Nat.land (ms.getD j 0) xm) p
def orderF (ms : List Nat) (js : List Nat) (xm : Nat) : List Nat → Nat → List Nat
  | [], p => orderG ms js xm p
  | x :: r, p => orderG ms js xm p ++ (x :: orderF ms js xm r (Nat.lor p (bit x)))
def orderOf (xs : List Bool) (ms : List Nat) (n : Nat) : List Nat :=
  let ix := (List.range n).filter fun j => xs.getD j true
  let js := (List.range n).filter fun j => not (xs.getD j true)
  orderF ms js (ix.foldl (fun m x => Nat.lor m (bit x)) 0) ix 0
/-- no slot is written twice -/
def slotR (dst : Option Tmp) (i : Nat) : List Oper → Nat → Bool
  | [], _ => true
  | q :: r, j => and (match q.dst with
    | none => true
    | some d => or (Nat.beq i j) (match dst with
      | none => true
      | some e => not (Nat.beq e d))) (slotR dst i r (j + 1))
/-- does an operation read a slot though it does not stand behind its writer? -/
def readBy (ops : Array Oper) (ms : List Nat) (d : Tmp) (j : Nat) : List Oper → Nat → Bool
  | [], _ => false
  | q :: r, i => or (and (not (has (ms.getD i 0) j)) ((q.looksAt ops).any fun t => Nat.beq t d)) (readBy ops ms d j r (i + 1))
/-- of each operation: does it act, or write what others read before? -/
def xsL (E : Env) (ops : Array Oper) (all : List Oper) (ms : List Nat) : List Oper → Nat → List Bool
  | [], _ => []
  | o :: r, j => or (isX E o) (match o.dst with
    | none => false
    | some d => readBy ops ms d j all 0) :: xsL E ops all ms r (j + 1)
def xsOf (E : Env) (ops : Array Oper) : List Bool := xsL E ops ops.toList (masks ops.toList) ops.toList 0
def planL (all : List Oper) (ms : List Nat) : List Oper → Nat → Bool
  | [], _ => true
  | o :: r, i => and (and (Nat.beq (maskOf ms o) (ms.getD i 0)) (o.after.toList.all fun e => or (not (binds e)) (Nat.ble (Nat.succ e.on) i)))
      (and (slotR o.dst i all 0) (planL all ms r (i + 1)))
def planOk (ops : Array Oper) : Bool := planL ops.toList (masks ops.toList) ops.toList 0

/-- the number of the block that a value names -/
def slotIs (tm : T V) (n : Nat) (dst : Option Tmp) (v : V) : Bool := match dst with
  | none => true
  | some d => and (Nat.ble (Nat.succ d) n) (match tm.get d with
    | some u => veqv v u
    | none => false)
/-- what the operation gives now is in its slot -/
def givesAt (E : Env) (n0 i : Nat) (o : Oper) (n : Nat) (tm : T V) (h : H) : Bool := match cls E o.op with
  | .P f => match f E tm with
    | some v => slotIs tm n o.dst v
    | none => false
  | .R f _ => match f E tm h.get with
    | some v => slotIs tm n o.dst v
    | none => false
  | .A f => match f E tm with
    | some p => and (slotIs tm n o.dst (p.2 (n0 + i))) (match h.get (n0 + i) with
      | some ob => oeq p.1 ob
      | none => false)
    | none => false
  | _ => false
def staysAt (E : Env) (all : List Oper) (n0 i : Nat) (o : Oper) (s : St) : Bool := match s with
  | .mk n tm h df => match o.guard with
    | none => givesAt E n0 i o n tm h
    | some g => and (wantedOk all g (.mk n tm h df)) (Bool.rec (slotIs tm n o.dst und) (givesAt E n0 i o n tm h) (wanted all g (.mk n tm h df)))
def bndOne (E : Env) (all : List Oper) (ms : List Nat) (n0 : Nat) (nx : Nat → Bool) (stuck : Bool) (C mX : Nat) (s : St) (i : Nat) (o : Oper) : Bool :=
  Bool.rec (or (nx i) (and stuck (not (sub (ms.getD i 0) C)))) (or (has mX i) (staysAt E all n0 i o s)) (has C i)
def bndL (E : Env) (all : List Oper) (ms : List Nat) (n0 : Nat) (nx : Nat → Bool) (stuck : Bool) (C mX : Nat) (s : St) : List Oper → Nat → Bool
  | [], _ => true
  | o :: r, i => and (bndOne E all ms n0 nx stuck C mX s i o) (bndL E all ms n0 nx stuck C mX s r (i + 1))
def guardR (all : List Oper) (o : Oper) (body rest : St → Res) (s : St) : Res :=
  Option.rec (body s) (fun g => Bool.rec (.no o.pos) (Bool.rec (unwant o rest s) (body s) (wanted all g s)) (wantedOk all g s)) o.guard
def H.putR {β : Type} (h : H) (id : Nat) (o : O) (k : H → β) : β := H.casesOn h fun n t l => t.setK id o fun t' => k (.mk n t' l)
def closeR (E : Env) (n0 i : Nat) (o : Oper) (rest : St → Res) (s : St) : Res := match s with
  | .mk n tm h df => match cls E o.op with
    | .P f => match f E tm with
      | some v => putK o.dst v h (.mk n tm h df) rest
      | none => .no o.pos
    | .R f _ => match f E tm h.get with
      | some v => putK o.dst v h (.mk n tm h df) rest
      | none => .no o.pos
    | .A f => match f E tm with
      | some p => h.putR (n0 + i) p.1 fun h' => putK o.dst (p.2 (n0 + i)) h' (.mk n tm h df) rest
      | none => .no o.pos
    | _ => .no o.pos
def idR (s : St) : Res := .ok .normal s
/-- after a panic nothing is known of the slots -/
def blankS (s : St) : St := St.casesOn s fun n _ h df => .mk n .E h df
def nextR (r : Res) (k : St → Res) : Res :=
  Res.casesOn (motive := fun _ => (St → Res) → Res) r (fun w _ => .no w) (fun o s k => Out.casesOn (motive := fun _ => St → (St → Res) → Res) o (fun s k => k s) (fun _ _ _ => .no "draw: exit") (fun _ _ => .no "draw: ret") (fun v s _ => .ok (.pan v) (blankS s)) s k) k
def drawR (E : Env) (call : CallF) (all : List Oper) (ms : List Nat) (n0 : Nat) (xs : List Bool) (ord : List Nat) : Nat → Nat → St → Res :=
  List.rec (motive := fun _ => Nat → Nat → St → Res)
    (fun C mX s => Bool.rec (.no "draw: end") (.ok .normal s) (bndL E all ms n0 (fun _ => false) false C mX s all 0))
    (fun i _ rest C mX s => match all[i]? with
      | none => .no "draw"
      | some o => Bool.rec (.no "draw: order")
        (Bool.rec
          (guardR all o (closeR E n0 i o (fun s => natF (Nat.lor C (bit i)) fun C => rest C mX s)) (fun s => natF (Nat.lor C (bit i)) fun C => rest C mX s) s)
          (Bool.rec (.no "draw: stay") (nextR (guardR all o (opRun E call o idR) idR s) fun s => natF (Nat.lor C (bit i)) fun C => natF (Nat.lor (ms.getD i 0) (bit i)) fun mX => rest C mX s)
            (and (sub mX (ms.getD i 0)) (bndL E all ms n0 (Nat.beq i) true C mX s all 0)))
          (xs.getD i true))
        (and (not (has C i)) (sub (ms.getD i 0) C))) ord
def startR (h : H) (m : Nat) (k : Nat → H → Res) : Res := H.casesOn h fun n t l => natF (n + m) fun n' => k n (.mk n' t l)
def regionD (E : Env) (call : CallF) (ops : Array Oper) (s : St) : Res :=
  Bool.rec (.no "draw: plan") (match s with
    | .mk n tm h df => startR h ops.toList.length fun n0 h' => drawR E call ops.toList (masks ops.toList) n0 (xsOf E ops) (orderOf (xsOf E ops) (masks ops.toList) ops.toList.length) 0 0 (.mk n tm h' df)) (planOk ops)
def regionR (E : Env) (call : CallF) (ops : Array Oper) (draw : Bool) (s : St) : Res :=
  Bool.rec (opsR E call ops.toList ops.toList s) (regionD E call ops s) draw

/-! ### code -/
def seqR (a b : St → Res) (s : St) : Res :=
  Res.casesOn (motive := fun _ => (St → Res) → Res) (a s) (fun w _ => .no w) (fun o s' b => Out.casesOn (motive := fun _ => St → (St → Res) → Res) o (fun s b => b s) (fun i s _ => .ok (.exit i) s) (fun s _ => .ok .ret s) (fun v s _ => .ok (.pan v) s) s' b) b
def condR (E : Env) (c : Operand) (a b : St → Res) (s : St) : Res :=
  St.casesOn (motive := fun _ => St → (St → Res) → (St → Res) → Res) s (fun _ tm _ _ s a b => opdK E c tm (fun _ _ _ => .no "cond") (fun v s a b => v.boolK (.no "cond") fun t => Bool.rec (b s) (a s) t) s a b) s a b
def blockR (id : Nat) (a : St → Res) (s : St) : Res :=
  Res.casesOn (motive := fun _ => Nat → Res) (a s) (fun w _ => .no w) (fun o s' id => Out.casesOn (motive := fun _ => St → Nat → Res) o (fun s _ => .ok .normal s) (fun i s id => Bool.rec (.ok (.exit i) s) (.ok .normal s) (Nat.beq i id)) (fun s _ => .ok .ret s) (fun v s _ => .ok (.pan v) s) s' id) id

def loopR (a : St → Res) (s : St) : Res :=
  Nat.rec (motive := fun _ => St → Res) (fun _ => .no "loop") (fun _ ih s => seqR a ih s) 1000000 s
/-- a range over a function -/
def rangeF (E : Env) (call : CallF) (fid : FuncId) (rd : Option Nat) (f : Operand) (params : Array Tmp) (assign body : Code) (s : St) : Res :=
  St.casesOn s fun n tm h df => opdK E f tm (.no "rangeFunc") fun fv => match fv with
    | .fn g first caps =>
      let go := fun (d : Nat) (h1 : H) (df1 : List Df) => h1.newK (.loop .ready none fid n tm params.toList assign body d) fun l h2 =>
        match xEnter E h2 g (first ++ ([.yld l] ++ caps)) with
        | .enter g args h2 => match call false g args h2 with
          | .ret _ h3 => match h3.get l with
            | some (.loop st pend a b c d e f' i) => match st with
              | .busy => .no "a round did not end"
              | _ => h3.putK l (.loop .exhausted pend a b c d e f' i) fun h4 => match pend with
                | none => .ok .normal (.mk n tm h4 df1)
                | some .ret => .ok .ret (.mk n tm h4 df1)
                | some (.exit i) => .ok (.exit i) (.mk n tm h4 df1)
                | some _ => .no "rangeFunc: a jump"
            | _ => .no "rangeFunc: no loop"
          | .pan v h3 => .ok (.pan v) (.mk n tm h3 df1)
          | .no w => .no w
        | _ => .no "rangeFunc: no call"
      match rd with
      | none => h.newK .dfr fun d h1 => go d h1 (.mark d :: df)
      | some l0 => match h.get l0 with
        | some (.loop _ _ _ _ _ _ _ _ d) => go d h df
        | _ => .no "rangeFunc: no loop around"
    | _ => .no "rangeFunc: no function"

def execC (E : Env) (call : CallF) (fid : FuncId) (rd : Option Nat) (c : Code) : St → Res :=
  Code.rec (motive := fun _ => St → Res) (fun s => .ok .normal s)
    (fun _ ops draw s => regionR E call ops draw s)
    (fun _ _ a b s => seqR a b s) (fun c _ _ a b s => condR E c a b s) (fun id _ a s => blockR id a s) (fun _ a s => loopR a s)
    (fun f params assign body _ _ s => rangeF E call fid rd f params assign body s) (fun id s => .ok (.exit id) s) (fun _ _ _ => .no "scope") (fun _ s => .ok .normal s) (fun _ _ => .no "goto") (fun s => .ok .ret s) (fun _ _ => .no "refuse") c

/-! ### calls -/
def resultsK (E : Env) (l : List ResultVar) (tm : T V) (h : H) (k : List V → FRes) : FRes :=
  List.rec (motive := fun _ => T V → H → (List V → FRes) → FRes) (fun _ _ k => k [])
    (fun r _ ih tm h k => ResultVar.casesOn (motive := fun _ => T V → H → (V → FRes) → FRes) r (fun t tm _ k => Option.rec (.no "result") k (tm.get t))
      (fun a t tm h k => Option.rec (.no "result") (fun v => v.ptrK (.no "result") fun id off => Option.rec (.no "result") k (loadG (E.wd t) h.get id off)) (tm.get a)) tm h (fun v => ih tm h fun l => k (v :: l))) l tm h k
def oneOr (l : List V) : V := match l with
  | [v] => v
  | l => .tup l
def initK {β : Type} (args : List V) (t : T V) (i : Nat) (k : T V → β) : β :=
  List.rec (motive := fun _ => T V → Nat → (T V → β) → β) (fun t _ k => k t) (fun v _ ih t i k => t.setK i v fun t' => ih t' (Nat.succ i) k) args t i k
def unmark (df : List Df) (h : H) (k : H → FRes) : FRes :=
  List.rec (motive := fun _ => H → (H → FRes) → FRes) (fun h k => k h) (fun d _ ih h k => match d with
    | .mark id => match h.get id with
      | some .dfr => h.putK id .dead fun h' => ih h' k
      | _ => .no "mark") df h k
def endF (E : Env) (fn : Func) (s : St) : FRes := St.casesOn s fun _ tm h df => unmark df h fun h => resultsK E fn.results.toList tm h fun l => .ret (oneOr l) h
def finR (E : Env) (fn : Func) (r : Res) : FRes :=
  Res.casesOn r .no fun o s => Out.casesOn (motive := fun _ => St → FRes) o (endF E fn) (fun _ _ => .no "exit") (endF E fn) (fun v s => St.casesOn s fun _ _ h df => match df with
    | [] => .pan v h
    | _ => .no "a panic past a mark") s
def callBody (E : Env) (call : CallF) (f : FuncId) (fn : Func) (c : Code) (args : List V) (h : H) : FRes :=
  Bool.rec (.no "args") (initK args (T.full und (Nat.succ (Nat.log2 fn.ntmps))) 0 fun tm => finR E fn (execC E call f none c (.mk fn.ntmps tm h []))) (Nat.ble args.length fn.ntmps)

def setAll (t : T V) : List (Tmp × V) → T V
  | [] => t
  | p :: r => t.setK p.1 p.2 fun t' => setAll t' r
/-- a round ends -/
def endRound (l : Nat) (st : LoopState) (pend : Option Code) (v : Bool) (s : St) : FRes :=
  St.casesOn s fun _ _ h _ => match h.get l with
    | some (.loop _ _ a b c d e f i) => h.putK l (.loop st pend a b c d e f i) fun h' => .ret (.bool v) h'
    | _ => .no "round: no loop"
def roundF (E : Env) (call : CallF) (l : Nat) (args : List V) (h : H) : FRes :=
  match h.get l with
  | some (.loop .ready _ fid n tm ps assign body _) =>
    Bool.rec (.no "round: arguments") (
      match execC E call fid (some l) assign (.mk n (setAll tm (ps.zip args)) h []) with
      | .ok .normal (.mk n1 tm1 h1 []) => match h1.get l with
        | some (.loop .ready pend a b c d e f i) => h1.putK l (.loop .busy pend a b c d e f i) fun h2 =>
          match execC E call fid (some l) body (.mk n1 tm1 h2 []) with
          | .ok o s => St.casesOn s fun n tm h3 df => match df with
            | [] => Out.casesOn (motive := fun _ => St → FRes) o (endRound l .ready none true) (fun i => endRound l .done (some (.exit i)) false) (endRound l .done (some .ret) false) (fun v s => St.casesOn s fun _ _ h _ => .pan v h) (.mk n tm h3 df)
            | _ => .no "round: marks"
          | .no w => .no w
        | _ => .no "round: no loop"
      | .no w => .no w
      | _ => .no "round: assign") (and (Nat.beq ps.length args.length) (ps.all fun p => Nat.ble (Nat.succ p) n))
  | _ => .no "round: no loop"

def run (E : Env) (n : Nat) : CallF :=
  Nat.rec (motive := fun _ => CallF) (fun _ _ _ _ => .no "deep") (fun _ ih rd f args h =>
    Bool.rec (Option.rec (.no "f") (fun fn => Option.rec (.no "f") (fun c => callBody E ih f fn c args h) fn.body) (E.funcs.get f)) (roundF E ih f args h) rd) n

end
end Go.Mx


namespace Go.Mx
noncomputable section

/-- a deferred call: the function and all its arguments -/
structure Dc where
  f : FuncId
  args : List V
inductive TRes where
  | no (w : String)
  | ok (o : Out) (s : St) (ds : List Dc)
inductive DRes where
  | no (w : String)
  | ok (h : H)

/-- operations, and a defer at their end -/
def splitD : List Oper → Option (List Oper × Oper × Call)
  | [] => none
  | o :: r => match splitD r with
    | some (l, d, c) => some (o :: l, d, c)
    | none => match r, o.op with
      | [], .defer c => some ([], o, c)
      | _, _ => none
def regD (c : Code) : Option (Array Oper × List Oper × Oper × Call) := match c with
  | .region _ ops false => match splitD ops.toList with
    | some (l, o, c) => some (ops, l, o, c)
    | none => none
  | _ => none
/-- is there a defer on its spine? -/
def hasD : Code → Bool
  | .seq a b => Bool.rec (hasD b) true (Option.rec false (fun _ => true) (regD a))
  | _ => false

def deferR (E : Env) (o : Oper) (c : Call) (s : St) (ds : List Dc) (k : St → List Dc → TRes) : TRes := match s, o.guard, o.dst, c.callee with
  | .mk n tm h df, none, none, .value f => opdK E f tm (.no o.pos) fun fv => opdsK E c.args.toList tm (.no o.pos) fun args => match fv with
    | .fn g first caps => match E.funcs.get g with
      | some fn => match fn.body with
        | some _ => k (.mk n tm h df) (⟨g, first ++ (args ++ caps)⟩ :: ds)
        | none => .no o.pos
      | none => .no o.pos
    | _ => .no o.pos
  | _, _, _, _ => .no o.pos

def thenT (r : Res) (ds : List Dc) (k : St → TRes) : TRes := match r with
  | .no w => .no w
  | .ok o s => match o with
    | .normal => k s
    | o => .ok o s ds
def execT (E : Env) (call : CallF) (f : FuncId) : Code → St → List Dc → TRes
  | .seq a b, s, ds => match regD a with
    | some (ops, l, o, c) => thenT (opsR E call ops.toList l s) ds fun s => deferR E o c s ds fun s ds => execT E call f b s ds
    | none => thenT (execC E call f none a s) ds fun s => execT E call f b s ds
  | c, s, ds => thenT (execC E call f none c s) ds fun s => .ok .normal s ds

def isRecover (o : Oper) : Bool := match o.op, o.guard with
  | .call ⟨.builtin .recover, _, _⟩, none => true
  | _, _ => false
def recV (u : Option V) : V := match u with
  | none => .nifc
  | some v => v
def finD (fn : Func) (r : Res) : DRes := match r with
  | .no w => .no w
  | .ok o (.mk _ _ h _) => match o, fn.results.toList with
    | .normal, [] => .ok h
    | .ret, [] => .ok h
    | _, _ => .no "deferred: its end"
def callDef (E : Env) (call : CallF) (u : Option V) (f : FuncId) (args : List V) (h : H) : DRes := match E.funcs.get f with
  | none => .no "deferred: f"
  | some fn => match fn.body with
    | some (.seq (.region _ ops false) rest) => Bool.rec (.no "deferred: args") (initK args (T.full und (Nat.succ (Nat.log2 fn.ntmps))) 0 fun tm => match ops.toList with
      | o :: os => Bool.rec (.no "deferred: no recover")
        (finD fn (putK o.dst (recV u) h (.mk fn.ntmps tm h []) fun s => seqR (opsR E call ops.toList os) (execC E call f none rest) s)) (isRecover o)
      | [] => .no "deferred: empty") (Nat.ble args.length fn.ntmps)
    | _ => .no "deferred: form"
def leaveR (E : Env) (call : CallF) (fn : Func) (tm : T V) : List Dc → Option V → H → FRes
  | [], none, h => resultsK E fn.results.toList tm h fun l => .ret (oneOr l) h
  | [], some v, h => .pan v h
  | d :: ds, u, h => match callDef E call u d.f d.args h with
    | .no w => .no w
    | .ok h' => leaveR E call fn tm ds none h'
def endT (E : Env) (call : CallF) (fn : Func) (r : TRes) : FRes := match r with
  | .no w => .no w
  | .ok o (.mk _ tm h _) ds => match o with
    | .normal => leaveR E call fn tm ds none h
    | .ret => leaveR E call fn tm ds none h
    | .pan v => leaveR E call fn tm ds (some v) h
    | .exit _ => .no "exit"
def callBodyD (E : Env) (call : CallF) (f : FuncId) (fn : Func) (c : Code) (args : List V) (h : H) : FRes :=
  Bool.rec (.no "args") (initK args (T.full und (Nat.succ (Nat.log2 fn.ntmps))) 0 fun tm => endT E call fn (execT E call f c (.mk fn.ntmps tm h []) [])) (Nat.ble args.length fn.ntmps)

def run1 (E : Env) (n : Nat) : CallF :=
  Nat.rec (motive := fun _ => CallF) (fun _ _ _ _ => .no "deep") (fun _ ih rd f args h =>
    Bool.rec (Option.rec (.no "f") (fun fn => Option.rec (.no "f") (fun c => Bool.rec (callBody E ih f fn c args h) (callBodyD E ih f fn c args h) (hasD c)) fn.body) (E.funcs.get f)) (.no "round") rd) n
end

mutual
/-- flat data as cells -/
def flatD : DataW Unit → List V
  | .lit (.bool b) => [.bool b]
  | .lit (.int k n) => [.int k n]
  | .lit (.string s) => [.str s]
  | .agg ds => flatDs ds
  | _ => []
def flatDs : List (DataW Unit) → List V
  | [] => []
  | d :: r => flatD d ++ flatDs r
end

/-- cells that are only read -/
noncomputable def roO (l : List V) : O := .cells (mkCells l l.length) l.length 0 false true 0
end Go.Mx

