/- Package-level variables as they are laid, and the first heap of a run. No condition. -/
import Derived.Test.YtfmkeaplkdcmlaaGreatDoorEvE
import Derived.OpenShut
import Derived.ChangeArms
import Derived.ChangeVars
import GoSem.ClaimJoined
import Derived.Handed
import Derived.LaidMore
import Derived.FnData
import Derived.ProofKit
import Derived.Lay
namespace Go.Mx

/-- a segment of each field -/
def segS (P : Program) (cw : TypeId → DataW Unit → Option (List V)) : List Field → List (DataW Unit) → Nat → Option (List V)
  | [], [], _ => some []
  | f :: fs, d :: ds, pos => match cw f.type d with
    | some l => if f.offset = pos ∧ l.length = P.cellsOf f.type then (match segS P cw fs ds (pos + l.length) with
        | some r => some (l ++ r)
        | none => none) else none
    | none => none
  | _, _, _ => none
def segA (cw : DataW Unit → Option (List V)) (sz : Nat) : List (DataW Unit) → Option (List V)
  | [] => some []
  | d :: ds => match cw d with
    | some l => if l.length = sz then (match segA cw sz ds with
        | some r => some (l ++ r)
        | none => none) else none
    | none => none
def cellsW (P : Program) : Nat → TypeId → DataW Unit → Option (List V)
  | 0, _, _ => none
  | n + 1, t, d => match P.underlying t, d with
    | some .bool, .lit (.bool b) => some [.bool b]
    | some (.int k), .lit (.int k' i) => if k = k' then some [.int k i] else none
    | some .string, .lit (.string s) => some [.str s]
    | some (.struct fs), .agg ds => match segS P (cellsW P n) fs.toList ds 0 with
      | some l => if l.length = P.cellsOf t then some l else none
      | none => none
    | some (.array m e), .agg ds => match segA (cellsW P n e) (P.cellsOf e) ds with
      | some l => if l.length = P.cellsOf t ∧ ds.length = m then some l else none
      | none => none
    | _, _ => none

section
variable {P : Program} {W : World} {sp : Nat → Bool} {ρ : Ren}

theorem segS_ok {cw : TypeId → DataW Unit → Option (List V)} {F : TypeId → List Value → Option (DataW Unit × List MemPlace)} {cs : List Value} (ih : ∀ t c d p l, F t c = some (d, p) → cw t d = some l → c = l.map (conc ρ)) :
    ∀ (fs : List Field) (xs : List (DataW Unit × List MemPlace)) (pos : Nat) (l : List V), fs.mapM (fun f => F f.type ((cs.drop f.offset).take (P.cellsOf f.type))) = some xs → segS P cw fs (xs.map (·.1)) pos = some l → pos + l.length = cs.length → cs.drop pos = l.map (conc ρ)
  | [], xs, pos, l, hm, hs, hl => by
    simp at hm
    subst hm
    simp only [List.map_nil, segS, Option.some.injEq] at hs
    subst hs
    simp at hl ⊢
    omega
  | f :: fs, xs, pos, l, hm, hs, hl => by
    rw [List.mapM_cons] at hm
    cases hf : F f.type ((cs.drop f.offset).take (P.cellsOf f.type)) with
    | none => rw [hf] at hm; cases hm
    | some x =>
      rw [hf] at hm
      cases hr : fs.mapM (fun f => F f.type ((cs.drop f.offset).take (P.cellsOf f.type))) with
      | none => rw [hr] at hm; cases hm
      | some r =>
        rw [hr] at hm
        have hm : some (x :: r) = some xs := hm
        cases hm
        obtain ⟨d, p⟩ := x
        simp only [List.map_cons, segS] at hs
        cases hc : cw f.type d with
        | none => simp only [hc] at hs; cases hs
        | some l1 =>
          simp only [hc] at hs
          split at hs
          · rename_i hpos
            cases hs2 : segS P cw fs (r.map (·.1)) (pos + l1.length) with
            | none => simp only [hs2] at hs; cases hs
            | some l2 =>
              simp only [hs2, Option.some.injEq] at hs
              subst hs
              have h1 := ih _ _ _ _ _ hf hc
              rw [hpos.1, ← hpos.2] at h1
              have h2 := segS_ok ih fs r (pos + l1.length) l2 hr hs2 (by simp at hl; omega)
              rw [List.map_append, ← h1, ← h2, ← List.drop_drop, List.take_append_drop]
          · cases hs

theorem segA_ok {cw : DataW Unit → Option (List V)} {F : List Value → Option (DataW Unit × List MemPlace)} {cs : List Value} {sz : Nat} (ih : ∀ c d p l, F c = some (d, p) → cw d = some l → c = l.map (conc ρ)) :
    ∀ (xs : List (DataW Unit × List MemPlace)) (k : Nat) (l : List V), (∀ i, i < xs.length → F ((cs.drop ((k + i) * sz)).take sz) = xs[i]?) → segA cw sz (xs.map (·.1)) = some l → k * sz + l.length = cs.length → cs.drop (k * sz) = l.map (conc ρ)
  | [], k, l, hm, hs, hl => by
    simp only [List.map_nil, segA, Option.some.injEq] at hs
    subst hs
    simp at hl ⊢
    omega
  | x :: r, k, l, hm, hs, hl => by
    obtain ⟨d, p⟩ := x
    simp only [List.map_cons, segA] at hs
    cases hc : cw d with
    | none => simp only [hc] at hs; cases hs
    | some l1 =>
      simp only [hc] at hs
      split at hs
      · rename_i hsz
        cases hs2 : segA cw sz (r.map (·.1)) with
        | none => simp only [hs2] at hs; cases hs
        | some l2 =>
          simp only [hs2, Option.some.injEq] at hs
          subst hs
          have h0 := hm 0 (by simp)
          simp only [Nat.add_zero, List.getElem?_cons_zero] at h0
          have h1 := ih _ _ _ _ h0 hc
          have hk : (k + 1) * sz = k * sz + sz := Nat.succ_mul k sz
          have h2 := segA_ok ih r (k + 1) l2 (fun i hi => by
            have := hm (i + 1) (by simp; omega)
            rw [List.getElem?_cons_succ] at this
            rw [← this, show k + (i + 1) = k + 1 + i by omega]) hs2 (by rw [hk]; simp at hl; omega)
          rw [List.map_append, ← h1, ← h2, hk, ← List.drop_drop, List.take_append_drop]
      · cases hs

theorem cellsW_ok : ∀ (n : Nat) {fuel : Nat} {t : TypeId} {cs : List Value} {d : DataW Unit} {p : List MemPlace} {l : List V}, DataW.trod (fun _ => ()) P W 0 sp false fuel t cs = some (d, p) → cellsW P n t d = some l → cs = l.map (conc ρ)
  | 0, fuel, t, cs, d, p, l, h, e => by cases e
  | n + 1, fuel, t, cs, d, p, l, h, e => by
    unfold cellsW at e
    split at e
    · rename_i b ht
      cases e
      obtain ⟨b', rfl, hx⟩ := DataW.trod_bool ht h
      simp only [Prod.mk.injEq, DataW.lit.injEq, Lit.bool.injEq] at hx
      rw [hx.1]
      simp [conc]
    · rename_i k k' i ht
      split at e
      · rename_i hk
        cases e
        subst hk
        obtain ⟨i', rfl, hx, _⟩ := DataW.trod_int ht h
        simp only [Prod.mk.injEq, DataW.lit.injEq, Lit.int.injEq, true_and] at hx
        rw [hx.1]
        simp [conc]
      · cases e
    · rename_i s ht
      cases e
      obtain ⟨s', rfl, hx, _⟩ := DataW.trod_string ht h
      simp only [Prod.mk.injEq, DataW.lit.injEq, Lit.string.injEq] at hx
      rw [hx.1]
      simp [conc]
    · rename_i fs ds ht
      cases fuel with
      | zero => simp [DataW.trod] at h
      | succ fuel =>
        unfold DataW.trod at h
        simp only [ht] at h
        split at h
        · rename_i hlen
          rw [Option.map_eq_some_iff] at h
          obtain ⟨xs, hm, hx⟩ := h
          simp only [Prod.mk.injEq, DataW.agg.injEq] at hx
          obtain ⟨hds, _⟩ := hx
          subst hds
          split at e
          · rename_i l' hseg
            split at e
            · rename_i hl
              cases e
              have := segS_ok (P := P) (ρ := ρ) (F := fun t c => DataW.trod (fun _ => ()) P W 0 sp false fuel t c) (cw := cellsW P n) (cs := cs) (fun t c d p l h1 h2 => cellsW_ok n h1 h2) fs.toList xs 0 l hm hseg (by omega)
              simpa using this
            · cases e
          · cases e
        · cases h
    · rename_i m el ds ht
      obtain ⟨xs, fu, _, hx, hlen, hxs, hel⟩ := DataW.trod_array ht h
      simp only [Prod.mk.injEq, DataW.agg.injEq] at hx
      obtain ⟨rfl, _⟩ := hx
      split at e
      · rename_i l' hseg
        split at e
        · rename_i hl
          cases e
          have := segA_ok (ρ := ρ) (F := fun c => DataW.trod (fun _ => ()) P W 0 sp false fu el c) (cw := cellsW P n el) (cs := cs) (sz := P.cellsOf el) (fun c d p l h1 h2 => cellsW_ok n h1 h2) xs 0 l (fun i hi => by rw [Nat.zero_add]; exact hel i (by omega)) hseg (by omega)
          simpa using this
        · cases e
      · cases e
    · cases e
end
end Go.Mx

namespace Go.Mx
section
variable {P : Program} {W : World}

theorem roO_live (l : List V) : (roO l).live = false := rfl
def simpleV : V → Bool
  | .bool _ => true
  | .int _ _ => true
  | .str _ => true
  | _ => false
theorem simple_ok {v : V} (h : simpleV v = true) (ρ : Ren) : v.ok ρ ∧ v.flat = true := by
  cases v <;> first | (cases h; done) | exact ⟨by simp [V.ok], rfl⟩
theorem roO_orel {ρ : Ren} {loc : Loc} {l : List V} (h : ∀ i v, l[i]? = some v → W.cell? ⟨loc.blk, loc.sh + i, none⟩ = some (conc ρ v) ∧ v.ok ρ ∧ v.flat = true) : ORel P ρ loc W (roO l) :=
  ⟨fun i v hi hv => h i v (T.get_ofL hv), fun hr => by cases hr⟩

/-- a flat variable's cells -/
theorem flat_cells {ρ : Ren} {name : String} {g : Nat} {t : TypeId} {cs : Array Value} {fuel : Nat} {d : DataW Unit} {p : List MemPlace} {sp : Nat → Bool} {l : List V} (n : Nat) (hg : P.globalNamed name = some g) (hv : W.var? P name = some cs)
    (h : DataW.trod (fun _ => ()) P W 0 sp false fuel t cs.toList = some (d, p)) (hc : cellsW P n t d = some l) (hs : l.all simpleV = true) :
    ∀ i v, l[i]? = some v → W.cell? ⟨g, i, none⟩ = some (conc ρ v) ∧ v.ok ρ ∧ v.flat = true := fun i v hi => by
  have := cellsW_ok (ρ := ρ) n h hc
  refine ⟨?_, simple_ok (List.all_eq_true.1 hs v (List.mem_of_getElem? hi)) ρ⟩
  rw [World.var?_cell hg hv i, ← Array.getElem?_toList, this, List.getElem?_map, hi]
  rfl

/-- a slice of strings -/
theorem strs_of_slice {sp : Nat → Bool} {t e : TypeId} {cs : List Value} {fuel : Nat} {es : List (DataW Unit)} {p : List MemPlace} (hsp : ∀ b, sp b = true) (ht : P.underlying t = some (.slice e)) (he : P.underlying e = some .string) (hc : P.cellsOf e = 1) (hne : 0 < es.length)
    (h : DataW.trod (fun _ => ()) P W 0 sp false fuel t cs = some (.slice es [], p)) :
    ∃ a : Addr, cs = [.slice (some ⟨a.block, a.off, none⟩) es.length es.length] ∧ ∀ i bytes, es[i]? = some (.lit (.string bytes)) → W.cell? ⟨a.block, a.off + i, none⟩ = some (.string ⟨bytes.toArray⟩) := by
  rcases DataW.trod_slice ht h with ⟨_, hx⟩ | ⟨a, len, cap, elems, rest, n, _, rfl, hx, _, hlc, _, hlen, hel, hsp1, _⟩
  · simp at hx
  · simp only [Prod.mk.injEq, DataW.slice.injEq] at hx
    obtain ⟨⟨hes, hrs⟩, _⟩ := hx
    have hrest : rest.length = 0 := by
      have := congrArg List.length hrs
      simpa using this.symm
    have hcap : cap = len := by
      have := (hsp1 (hsp _)).1
      omega
    have hl2 : es.length = len := by rw [hes]; simpa using hlen
    have cell : ∀ i, i < len → ∃ s : ByteArray, W.cell? (a.add i) = some (.string s) ∧ ∃ q, elems[i]? = some (.lit (.string s.data.toList), q) := fun i hi => by
      have := hel i hi
      rw [hc, Nat.mul_one] at this
      rw [List.getElem?_eq_getElem (by omega : i < elems.length)] at this
      cases hcs : W.cells? 0 (a.add i) 1 with
      | none => rw [hcs] at this; cases this
      | some c =>
        rw [hcs] at this
        obtain ⟨s, hs, hx, _⟩ := DataW.trod_string he this
        subst hs
        refine ⟨s, ?_, [], by rw [List.getElem?_eq_getElem (by omega : i < elems.length)]; rw [hx]⟩
        unfold World.cells? at hcs
        rw [if_pos (Nat.zero_le _)] at hcs
        simp only [List.range_one, List.mapM_cons, List.mapM_nil, Addr.add, if_true] at hcs
        cases hcell : W.cell? (if i = 0 then a else { block := a.block, off := a.off + i }) with
        | none => simp [Addr.add] at hcs hcell; rw [hcell] at hcs; cases hcs
        | some v =>
          simp [Addr.add] at hcs hcell
          rw [hcell] at hcs
          have : some [v] = some [Value.string s] := hcs
          simp only [Option.some.injEq, List.cons.injEq, and_true] at this
          subst this
          unfold Addr.add
          exact hcell
    have hspot : a.spot = none := by
      obtain ⟨s, hs, _⟩ := cell 0 (by omega)
      have hs : W.cell? a = some (.string s) := hs
      unfold World.cell? at hs
      cases hsp : a.spot with
      | none => rfl
      | some k =>
        rw [hsp] at hs
        split at hs
        · simp at hs
        · cases hs
    refine ⟨a, ?_, fun i bytes hi => ?_⟩
    · rw [hl2, hcap]
      cases a
      simp only at hspot
      rw [hspot]
    · have hlt : i < len := by
        rw [← hl2]; exact (List.getElem?_eq_some_iff.1 hi).1
      obtain ⟨s, hs, q, hq⟩ := cell i hlt
      rw [hes, List.getElem?_map, hq] at hi
      simp only [Option.map_some, Option.some.injEq, DataW.lit.injEq, Lit.string.injEq] at hi
      have hadd : a.add i = ⟨a.block, a.off + i, none⟩ := by
        unfold Addr.add
        split
        · rename_i h0
          subst h0
          cases a
          simp only at hspot
          rw [hspot]
          rfl
        · rfl
      rw [hadd] at hs
      rw [hs, ← hi]

/-- the package-level variables have their blocks -/
theorem globals_lt (h : W.ShapedOpen P) (hk : ((List.range P.globals.size).all fun g => (((begin P (fun _ _ => 0) default).world.heap[g]?).bind Obj.row?).isSome) = true) : ∀ g, g < P.globals.size → g < W.heap.size := fun g hg => by
  have := List.all_eq_true.1 hk g (List.mem_range.2 hg)
  cases hx : ((begin P (fun _ _ => 0) default).world.heap[g]?).bind Obj.row? with
  | none => rw [hx] at this; cases this
  | some p =>
    obtain ⟨zero, t⟩ := p
    obtain ⟨cs, hcs, _⟩ := h.1 g zero t hg hx
    exact (Array.getElem?_eq_some_iff.1 hcs).1

/-- nothing that was there is other than it was -/
theorem kept {ρ ρ' : Ren} {h h' : H} {W' : World} (x : Ext P ρ h W ρ' h' W') (hn : ∀ id, ¬ Live h.get id) : (∀ b, b < W.heap.size → W'.heap[b]? = W.heap[b]?) ∧ ∀ may, W.keptBut W' may := by
  have hb : ∀ b, b < W.heap.size → W'.heap[b]? = W.heap[b]? := fun b hb => x.frame b hb fun id _ _ _ => hn id
  refine ⟨hb, fun may => ⟨x.os, x.out, fun i hi => ?_⟩⟩
  rw [hb i hi]
  cases hq : W.heap[i]? with
  | none => trivial
  | some o =>
    cases o with
    | cells c t fr => exact ⟨rfl, rfl, rfl, fun _ _ => rfl⟩
    | map es clock => exact .inr ⟨rfl, rfl⟩
    | _ => rfl
end

/-- the builder of Handed.lean, with what is known of the world's package-level variables -/
theorem handed_shaped {H : Type} {enc : TypeId × Value → H} {a : Assume} {C : Checked} {os : Os} {f : FuncId} {fn : Func} {s : ChangeSpec} {conds : List PathCond} {apart fresh handsOn again : Bool} {X : World → Array Value → Prop}
    (hX : ∀ (w w' : World) (args : Array Value), w.heap = w'.heap → X w args → X w' args)
    (own : ownKnob C.prog.godebug = none) (started : os.Started) (noInit : C.prog.inits.idxOf? f = none) (hfn : C.prog.funcs[f]? = some fn)
    (witness : ∃ (w : World) (tape : Tape) (i : Input), w.os = os ∧ (w.forCall tape i).Shaped C.prog ∧ i.vars = [] ∧ Input.okWide C.prog (w.forCall tape i) .any w.heap.size f i ∧
      ((s.pre enc C.prog fn conds apart (w.forCall tape i).memory i.args ∧ X (w.forCall tape i).memory i.args) ∧ sizedMet enc C.prog fn (OpenSpec.ofChange s) apart (w.forCall tape i).memory i.args) ∧ a.holds C.prog (lone (Frame.enter C.prog f i.args .normal) [] (w.forCall tape i)))
    (contract : ∀ (W : World) (base : Nat) (args : Array Value) (ds gs : List (DataW H)) (before : List MemPlace), W.ShapedOpen C.prog →
      (∀ (j : Nat) t v, fn.params[j]? = some t → args[j]? = some v → Value.okWide C.prog W .any base t v) →
      DataW.Whole enc C.prog fn.params.toList s.vars apart W args.toList ds gs before →
      conds.all (PathCond.test C.prog ⟨fn.params.toList, ds, s.plain.varTypes C.prog, gs⟩) = true →
      (DataW.weightsEach C.prog (fn.params.toList ++ s.plain.varTypes C.prog) (ds ++ gs)).all (· ≤ reachBytes) = true → X W args →
      Calls C.prog f args W fun e W' => ∃ v, e = .returned v ∧ s.post enc C.prog fn apart fresh handsOn again W args v W') :
    ReturnsInHanded a C os f .any (fun w args => (s.pre enc C.prog fn conds apart w args ∧ X w args) ∧ sizedMet enc C.prog fn (OpenSpec.ofChange s) apart w args) (s.post enc C.prog fn apart fresh handsOn again) := by
  refine returnsInHanded_of_calls own started noInit witness ?_
  intro w tape i _ hshape _ hok hpre hholds
  obtain ⟨_, _, _, fn', hfn', _, _, _, _, hval⟩ := hok
  have e : fn' = fn := Option.some.inj (hfn'.symm.trans hfn)
  subst e
  obtain ⟨⟨⟨ds, gs, before, hw, hc⟩, hx⟩, hz⟩ := hpre
  have hw' := DataW.Whole.of_heap (w' := w.forCall tape i) (by rfl) hw
  refine (contract (w.forCall tape i) w.heap.size i.args ds gs before hshape hval hw' hc (hz.weights hw) (hX _ _ _ (by rfl) hx)).mono fun e W' ⟨v, he, hp⟩ => ?_
  subst he
  exact ChangeSpec.post_blind hp
end Go.Mx

