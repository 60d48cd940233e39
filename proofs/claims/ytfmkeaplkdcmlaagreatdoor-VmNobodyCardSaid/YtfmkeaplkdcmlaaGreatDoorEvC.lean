/- The evaluator: its acting operations are sound. No condition. -/
import Derived.Test.YtfmkeaplkdcmlaaGreatDoorEvB
import Derived.Laws.IdiomCopy
import Derived.Deep.AppendSrc
import Derived.Deep.Upon
import Derived.Lib.UnsafeStr
import Derived.Laws.IdiomStrings
namespace Go.Mx

section
variable {P : Program} {ρ : Ren} {tm : T V} {a : Act} {h : H} {w : World}

theorem putK_eq {β : Type} (h : H) (id : Nat) (o : O) (k : H → β) : h.putK id o k = k (h.put id o) := by
  cases h with
  | mk n t l => exact T.setK_eq t id o fun t' => k (.mk n t' (id :: l))
theorem newK_eq {β : Type} (h : H) (o : O) (k : Nat → H → β) : h.newK o k = k h.next (h.putNew o) := by
  cases h with
  | mk n t l => exact T.setK_eq t n o fun t' => k n (.mk (Nat.succ n) t' l)

noncomputable def setC (c : T V) : Nat → List V → T V
  | _, [] => c
  | off, v :: r => setC (c.set off v) (off + 1) r
theorem setCellsK_eq {β : Type} : ∀ (l : List V) (c : T V) (off : Nat) (k : T V → β), setCellsK l c off k = k (setC c off l)
  | [], c, off, k => rfl
  | v :: r, c, off, k => by
    show c.setK off v (fun c' => setCellsK r c' (off + 1) k) = _
    rw [T.setK_eq, setCellsK_eq r]
    rfl
theorem get_setC : ∀ {l : List V} {c : T V} {off j : Nat} {v : V}, (setC c off l).get j = some v → (off ≤ j ∧ l[j - off]? = some v) ∨ ((j < off ∨ off + l.length ≤ j) ∧ c.get j = some v)
  | [], c, off, j, v, h => .inr ⟨by simp; omega, h⟩
  | u :: r, c, off, j, v, h => by
    rcases get_setC (l := r) h with ⟨h1, h2⟩ | ⟨h1, h2⟩
    · left
      refine ⟨by omega, ?_⟩
      rw [show j - off = (j - (off + 1)) + 1 by omega, List.getElem?_cons_succ]
      exact h2
    · rcases T.get_set h2 with ⟨rfl, rfl⟩ | ⟨h3, h4⟩
      · left; simp
      · right; exact ⟨by simp; omega, h4⟩

theorem flat_one {v : V} (h : v.flat = true) : (conc ρ v).oneCell' = true := by
  cases v with
  | agg cs => cases h
  | tup cs => cases h
  | slc i o l c => obtain ⟨a, n, k, e⟩ := slc_shape ρ i o l c; rw [e]; rfl
  | _ => simp only [conc]; rfl

theorem setCells_heap {b : Nat} {el : TypeId} {f : Nat × Nat} : ∀ (vs : List Value) (o : Nat) (w : World) (arr : Array Value), w.heap[b]? = some (.cells arr el f) →
    (∃ arr', (w.setCells b o vs).heap[b]? = some (.cells arr' el f) ∧ arr'.size = arr.size)
  | [], o, w, arr, h => ⟨arr, h, rfl⟩
  | v :: r, o, w, arr, h => by
    have h1 : (w.setCell ⟨b, o, none⟩ v).heap[b]? = some (.cells (arr.setIfInBounds o v) el f) := by
      simp [World.setCell, Array.getElem?_modify, h]
    obtain ⟨arr', h2, h3⟩ := setCells_heap r (o + 1) _ _ h1
    exact ⟨arr', h2, by rw [h3]; simp⟩
theorem setCells_other {b : Nat} : ∀ (vs : List Value) (o : Nat) (w : World), (w.setCells b o vs).heap.size = w.heap.size ∧ (∀ b', b' ≠ b → (w.setCells b o vs).heap[b']? = w.heap[b']?) ∧
    (w.setCells b o vs).os = w.os ∧ (w.setCells b o vs).output = w.output
  | [], o, w => ⟨rfl, fun _ _ => rfl, rfl, rfl⟩
  | v :: r, o, w => by
    have ih := setCells_other (b := b) r (o + 1) (w.setCell ⟨b, o, none⟩ v)
    refine ⟨ih.1.trans (by simp [World.setCell]), fun b' hb => (ih.2.1 b' hb).trans (by simp [World.setCell, Array.getElem?_modify, Ne.symm hb]), ih.2.2.1, ih.2.2.2⟩

/-- what stands of a row once cells of it are written -/
theorem cells_write {loc : Loc} {c : T V} {n off fz : Nat} {el : TypeId} {op : Bool} {l : List V} (ho : ORel P ρ loc w (.cells c n el op false fz)) (hl : oksF ρ l) (hn : off + l.length ≤ n) (hf : fz ≤ off) :
    (storeCells ⟨loc.blk, loc.sh + off, none⟩ (concs ρ l)).run P w = .ok () (w.setCells loc.blk (loc.sh + off) (concs ρ l)) ∧
    ORel P ρ loc (w.setCells loc.blk (loc.sh + off) (concs ρ l)) (.cells (setC c off l) n el op false fz) := by
  obtain ⟨hc, hs⟩ := ho
  obtain ⟨arr, lo, hi, h1, h2, h3, h4, h5⟩ := hs rfl
  have hcell : ∀ j, j < (concs ρ l).length → (w.cell? ⟨loc.blk, loc.sh + off + j, none⟩).isSome = true := fun j hj => by
    rw [concs_length] at hj
    rw [cell_of h1, Array.getElem?_eq_getElem (by omega)]
    rfl
  refine ⟨?_, fun i v hi' hv => ?_, fun _ => ?_⟩
  · have := run_storeCells_cells (P := P) loc.blk (loc.sh + off) (concs ρ l) 0 w (fun j hj => hcell j hj) (fun j hj => by
      rw [concs_length] at hj
      unfold World.frozen?
      simp only [h1]
      have := h3 (off + j) (by omega) (by omega)
      simp only [Nat.add_zero]
      by_cases hlo : lo ≤ loc.sh + off + j
      · have hnh : ¬ (loc.sh + off + j < hi) := fun h => this ⟨by omega, by omega⟩
        simp [hnh]
      · simp [hlo]) (fun v hv => by
      rw [concs_map] at hv
      obtain ⟨u, hu, rfl⟩ := List.mem_map.1 hv
      exact flat_one (oksF_iff.1 hl u hu).2)
    simpa using this
  · rcases get_setC hv with ⟨h6, h7⟩ | ⟨h6, h7⟩
    · have hlt : i - off < l.length := by
        rcases Nat.lt_or_ge (i - off) l.length with h | h
        · exact h
        · rw [List.getElem?_eq_none h] at h7; cases h7
      have hin := World.cell?_setCells_in loc.blk (concs ρ l) (loc.sh + off) w hcell (i - off) (by rw [concs_length]; exact hlt)
      refine ⟨?_, oksF_iff.1 hl v (List.mem_of_getElem? h7)⟩
      rw [show loc.sh + i = loc.sh + off + (i - off) by omega, hin]
      have : (concs ρ l)[i - off]? = some (conc ρ v) := by rw [concs_getElem?, h7]; rfl
      rw [List.getElem?_eq_getElem (by rw [concs_length]; exact hlt)] at this
      exact this
    · have := hc i v hi' h7
      refine ⟨?_, this.2⟩
      rw [World.cell?_setCells_out loc.blk (concs ρ l) (loc.sh + off) w _ (fun _ _ => by rw [concs_length]; simp only; omega)]
      exact this.1
  · obtain ⟨arr', h6, h7⟩ := setCells_heap (concs ρ l) (loc.sh + off) w arr h1
    refine ⟨arr', lo, hi, h6, by omega, fun j hj hj' => h3 j hj (by omega), fun hh => ?_, fun hh => ?_⟩
    · obtain ⟨h8, h9⟩ := h4 hh
      exact ⟨h8, by omega⟩
    · obtain ⟨i, h8, h9⟩ := h5 hh
      exact ⟨i, h8, by omega⟩

theorem store_ok {id off n fz : Nat} {loc : Loc} {c : T V} {el : TypeId} {op : Bool} {l : List V} (r : Rel P ρ h.get w) (t : Top ρ h) (hid : ρ id = some loc) (hg : h.get id = some (.cells c n el op false fz))
    (hl : oksF ρ l) (hn : off + l.length ≤ n) (hf : fz ≤ off) :
    ∃ w', (storeCells ⟨loc.blk, loc.sh + off, none⟩ (concs ρ l)).run P w = .ok () w' ∧ Ext P ρ h w ρ (h.put id (.cells (setC c off l) n el op false fz)) w' := by
  have hw := cells_write ((r.obj id loc hid).2 _ hg) hl hn hf
  have ho := setCells_other (b := loc.blk) (concs ρ l) (loc.sh + off) w
  exact ⟨_, hw.1, Ext.write r t hid hg rfl ho.1 ho.2.1 hw.2 ho.2.2.1 ho.2.2.2⟩

/-- what an operation gives that acts -/
def XGives (P : Program) (ρ : Ren) (h : H) (w : World) (a : Act) (op : Op) : OpR → Prop
  | .no => True
  | .val v h' => ∃ ρ' w', (∀ oo : Oper, oo.op = op → (execOp a.eval oo).run P w = .ok (.value (conc ρ' v)) w') ∧ Ext P ρ h w ρ' h' w' ∧ v.ok ρ'
  | .skip h' => ∃ ρ' w', (∀ oo : Oper, oo.op = op → (execOp a.eval oo).run P w = .ok .skip w') ∧ Ext P ρ h w ρ' h' w'
  | .enter f args h' => h' = h ∧ (∃ fn c, P.funcs[f]? = some fn ∧ fn.body = some c) ∧ (∀ oo : Oper, oo.op = op → (execOp a.eval oo).run P w = .ok (.enter f ⟨concs ρ args⟩) w) ∧ oks ρ args
  | .round l args h' => h' = h ∧ (∀ oo : Oper, oo.op = op → (execOp a.eval oo).run P w = (Instr.yield (ρ.at l).blk ⟨concs ρ args⟩).run P w) ∧ oks ρ args ∧ (V.yld l).ok ρ
  | .pan v h' => h' = h ∧ (∀ oo : Oper, oo.op = op → (execOp a.eval oo).run P w = .halt (.panic (conc ρ v)) w) ∧ v.ok ρ

theorem XGives.no' {op : Op} {r : OpR} (e : r = .no) : XGives P ρ h w a op r := by subst e; trivial

theorem xStore_ok (fr : Fr P ρ tm a) (r : Rel P ρ h.get w) (t : Top ρ h) {ty : TypeId} {x y : Operand} {q : OpR} (e : xStore ty x y (Env.of P) tm h = q) : XGives P ρ h w a (.store ty x y) q := by
  by_cases hq : q = .no
  · exact XGives.no' hq
  have hq : OpR.no ≠ q := Ne.symm hq
  unfold xStore at e
  replace e := opdK_inv fr e hq
  obtain ⟨p, ep, op, e⟩ := e
  replace e := opdK_inv fr e hq
  obtain ⟨v, ev, ov, e⟩ := e
  replace e := ptrK_inv e hq
  obtain ⟨id, off, rfl, e⟩ := e
  replace e := orec_inv e hq
  obtain ⟨m, hm, e⟩ := e
  replace e := gcells_inv e hq
  obtain ⟨c, n, el, opn, ro, fz, hg, e⟩ := e
  replace e := cellsK_inv ov e hq
  obtain ⟨cs, hc, okc, e⟩ := e
  replace e := brec_inv e hq
  obtain ⟨hb, e⟩ := e
  rw [setCellsK_eq, putK_eq] at e
  simp only [Bool.and_eq_true] at hb
  obtain ⟨hb1, hb2, hb3, hb4⟩ := hb
  have hb1 := Nat.eq_of_beq_eq_true hb1
  have hb2 : off + m ≤ n := Nat.le_of_ble_eq_true hb2
  have hb3 := Nat.le_of_ble_eq_true hb3
  have hro : ro = false := by cases ro <;> simp_all
  subst hro
  simp only [V.ok] at op
  obtain ⟨loc, hl⟩ := op
  have hat : ρ.at id = loc := by simp [Ren.at, hl]
  obtain ⟨w', h1, h2⟩ := store_ok (off := off) r t hl hg okc (by omega) hb3
  subst e
  refine ⟨ρ, w', fun oo ho => ?_, h2⟩
  simp only [conc, hat] at ep
  have hsz : (conc ρ v).cells.size = m := by rw [hc, ← hb1]; simp [concs_length]
  have hlist : (conc ρ v).cells.toList = concs ρ cs := by rw [hc]
  simp [execOp, ho, Instr.storeAt, Instr.sureAddr, storeVar, ep, ev, run_size hm, hsz, hlist, h1]
end
end Go.Mx

namespace Go.Mx

section
variable {P : Program} {ρ : Ren} {tm : T V} {a : Act} {h : H} {w : World}

/-- where a slice lies -/
theorem slc_at {id off len : Nat} {cap : Cap} (ok : (V.slc id off len cap).ok ρ) : ∃ loc o c, ρ id = some loc ∧ conc ρ (.slc id off len cap) = .slice (some ⟨loc.blk, o, none⟩) len c ∧ (len = 0 ∨ o = loc.sh + off) ∧ len ≤ c := by
  simp only [V.ok] at ok
  obtain ⟨loc, hl, hcap⟩ := ok
  have hat : ρ.at id = loc := by simp [Ren.at, hl]
  cases cap with
  | known c => exact ⟨loc, _, c, hl, by simp only [conc, hat], .inr rfl, hcap⟩
  | open_ lo =>
    simp only [capOk] at hcap
    exact ⟨loc, _, loc.ext - lo, hl, by simp only [conc, hat], .inr rfl, by omega⟩
  | end_ o0 lo =>
    simp only [capOk] at hcap
    by_cases hx : loc.ext = lo
    · exact ⟨loc, _, 0, hl, by simp only [conc, hat, if_pos hx]; rfl, .inl hcap.1, by omega⟩
    · exact ⟨loc, _, loc.ext - lo, hl, by simp only [conc, hat, if_neg hx], .inr rfl, by omega⟩

theorem lenV_ok {x : V} {k : Nat} (e : lenV x = some k) : ∀ w : World, (Builtin.lenOf (conc ρ x)).run P w = .ok k w := by
  intro w
  cases x with
  | nslc => cases e; simp [conc, Builtin.lenOf]
  | slc i o l c =>
    cases e
    cases c with
    | known c => simp [conc, Builtin.lenOf]
    | open_ c => simp [conc, Builtin.lenOf]
    | end_ o0 lo => by_cases hx : (ρ.at i).ext = lo <;> simp [conc, Builtin.lenOf, hx]
  | str s =>
    cases e
    have hs : (⟨s.toArray⟩ : ByteArray).size = s.length := by show s.toArray.size = _; simp
    simp [conc, Builtin.lenOf, hs]
  | _ => cases e

/-- the first elements' cells -/
theorem firstG_ok (r : Rel P ρ h.get w) {x : V} {sz n k : Nat} {new : List V} (ox : x.ok ρ) (e : firstG h.get sz n x = some new) (hk : lenV x = some k) (hn : n ≤ k) :
    (∀ w' : World, w'.heap = w.heap → (Builtin.firstCells sz n (conc ρ x)).run P w' = .ok ⟨concs ρ new⟩ w') ∧ oksF ρ new ∧ ((∀ s, x ≠ .str s) → new.length = n * sz) := by
  cases x with
  | nslc =>
    have e : (if n = 0 then some [] else none) = some new := e
    split at e
    · rename_i h0
      cases e
      exact ⟨fun w' _ => by simp [conc, Builtin.firstCells, concs], trivial, fun _ => by simp [h0]⟩
    · cases e
  | slc id off len cap =>
    replace e := gcells_inv (show G.cellsK h.get id none (fun c m _ _ _ _ => if off + n * sz ≤ m then getCells c (n * sz) off else none) = some new from e) nofun
    obtain ⟨c, m, el, op, ro, fz, hg, e⟩ := e
    cases hk
    split at e
    · rename_i hle
      have hc := getCells_ok e
      obtain ⟨loc, o, cc, hl, hs, ho, _⟩ := slc_at ox
      have hrel := ((r.obj id loc hl).2 _ hg).1
      have hcell : ∀ i v, new[i]? = some v → w.cell? ⟨loc.blk, loc.sh + off + i, none⟩ = some (conc ρ v) ∧ v.ok ρ ∧ v.flat = true := fun i v hi => by
        have hlt : i < new.length := by
          rcases Nat.lt_or_ge i new.length with h1 | h1
          · exact h1
          · rw [List.getElem?_eq_none h1] at hi; cases hi
        rw [hc.1] at hlt
        rw [show loc.sh + off + i = loc.sh + (off + i) by omega]
        exact hrel (off + i) v (by omega) (hc.2 i v hi)
      refine ⟨fun w' hw => ?_, oksF_iff.2 fun u hu => (hcell _ u (List.getElem?_of_mem hu).choose_spec).2, fun _ => hc.1⟩
      rw [hs]
      simp only [Builtin.firstCells]
      rw [← hc.1]
      refine run_cells (P := P) (ρ := ρ) (l := new) fun i v hi => ?_
      have hlt : i < new.length := by
        rcases Nat.lt_or_ge i new.length with h1 | h1
        · exact h1
        · rw [List.getElem?_eq_none h1] at hi; cases hi
      rcases ho with h0 | rfl
      · rw [hc.1] at hlt
        have : n = 0 := by omega
        subst this
        simp at hlt
      · have := (hcell i v hi).1
        unfold World.cell? at this ⊢
        rw [hw]
        exact this
    · cases e
  | str s =>
    cases e
    refine ⟨fun w' _ => ?_, oksF_iff.2 fun u hu => ?_, fun hne => absurd rfl (hne s)⟩
    · simp only [conc, Builtin.firstCells, Sem.run_pure]
      congr 1
      apply Array.ext'
      have hf : (conc ρ ∘ fun b : UInt8 => V.int .u8 (b.toNat : Int)) = fun b => Value.int .u8 (b.toNat : Int) := by funext b; simp [conc]
      simp [concs_map, hf]
    · obtain ⟨b, _, rfl⟩ := List.mem_map.1 hu
      exact ⟨by simp [V.ok], rfl⟩
  | _ => cases e

theorem oneCells {l : List V} (hl : oksF ρ l) : ∀ u ∈ concs ρ l, u.oneCell' = true := fun u hu => by
  rw [concs_map] at hu
  obtain ⟨v, hv, rfl⟩ := List.mem_map.1 hu
  exact flat_one (oksF_iff.1 hl v hv).2

theorem xCopy_ok (fr : Fr P ρ tm a) (r : Rel P ρ h.get w) (t : Top ρ h) {c : Call} {q : OpR} (hb : c.callee = .builtin .copy) (e : xCopy c.argTypes c.args (Env.of P) tm h = q) : XGives P ρ h w a (.call c) q := by
  by_cases hq : q = .no
  · exact XGives.no' hq
  have hq : OpR.no ≠ q := Ne.symm hq
  unfold xCopy at e
  replace e := opdsK_inv fr e hq
  obtain ⟨l, el, ol, e⟩ := e
  split at e
  · rename_i d x t0 ts htys
    have hargs : c.args.map a.eval = #[conc ρ d, conc ρ x] := by
      apply Array.ext'
      rw [Array.toList_map, el]; rfl
    simp only [oks] at ol
    obtain ⟨od, ox, _⟩ := ol
    have hty0 : c.argTypes[0]? = some t0 := by
      rw [← Array.getElem?_toList, htys]; rfl
    split at e
    · rename_i elm hd
      split at e
      · rename_i sz m k hsz hm hk
        replace e := natF_inv e
        have run : ∀ (new : List V) (w' : World), (Builtin.firstCells sz (min k m) (conc ρ x)).run P w = .ok ⟨concs ρ new⟩ w →
            ∀ (base : Option Addr) (cc : Nat), conc ρ d = .slice base m cc → (∀ ad, base = some ad → (storeCells ad (concs ρ new)).run P w = .ok () w') → (base = none → w' = w) →
            ∀ oo : Oper, oo.op = .call c → (execOp a.eval oo).run P w = .ok (.value (conc ρ (.int .i64 (.ofNat (min k m))))) w' := by
          intro new w' hf base cc hbase hst hnone oo ho
          have hmin : k.min m = min k m := rfl
          cases base with
          | none =>
            cases hnone rfl
            simp [execOp, ho, resolve, hb, invoke, builtin, Builtin.copy_, hargs, hty0, run_und hd, hbase, lenV_ok hk, run_size hsz, hmin, hf, conc, goInt]
          | some ad =>
            simp [execOp, ho, resolve, hb, invoke, builtin, Builtin.copy_, hargs, hty0, run_und hd, hbase, lenV_ok hk, run_size hsz, hmin, hf, hst ad rfl, conc, goInt]
        split at e
        · rename_i new hnew
          have hf := firstG_ok r ox hnew hk (Nat.min_le_left _ _)
          split at e
          · subst e
            cases hm
            exact ⟨ρ, w, run new w (hf.1 w rfl) none 0 rfl (fun _ h => by cases h) (fun _ => rfl), .refl r t, by simp [V.ok]⟩
          · rename_i id off len cap
            cases hm
            replace e := gcells_inv e hq
            obtain ⟨cc, cn, cel, opn, ro, fz, hg, e⟩ := e
            replace e := brec_inv e hq
            obtain ⟨hbb, e⟩ := e
            rw [setCellsK_eq, putK_eq] at e
            simp only [Bool.and_eq_true] at hbb
            obtain ⟨hb1, hb2, hb3⟩ := hbb
            have hb1 := Nat.le_of_ble_eq_true hb1
            have hb2 := Nat.le_of_ble_eq_true hb2
            have hro : ro = false := by cases ro <;> simp_all
            subst hro
            obtain ⟨loc, o, c2, hl, hs, ho, _⟩ := slc_at od
            subst e
            by_cases h0 : new = []
            · subst h0
              have hE := (r.obj id loc hl).2 _ hg
              have hx : Ext P ρ h w ρ (h.put id (.cells (setC cc off []) cn cel opn false fz)) w := Ext.write r t hl hg rfl rfl (fun _ _ => rfl) hE rfl rfl
              exact ⟨ρ, w, run [] w (hf.1 w rfl) (some ⟨loc.blk, o, none⟩) c2 hs (fun ad had => by simp [concs, storeCells]) (fun _ => rfl), hx, by simp [V.ok]⟩
            · have hlen : m ≠ 0 ∨ o = loc.sh + off := by
                rcases ho with h1 | h1
                · exfalso
                  subst h1
                  apply h0
                  rw [show min k 0 = 0 by omega] at hnew hf
                  cases x with
                  | nslc => cases hnew; rfl
                  | str s => cases hnew; rfl
                  | slc i1 o1 l1 c1 =>
                    have := hf.2.2 (fun s => by simp)
                    simpa using this
                  | _ => cases hk
                · exact .inr h1
              have ho' : o = loc.sh + off := by
                rcases ho with h1 | h1
                · rcases hlen with h2 | h2
                  · exact absurd h1 h2
                  · exact h2
                · exact h1
              subst ho'
              obtain ⟨w', h1, h2⟩ := store_ok (off := off) r t hl hg hf.2.1 hb1 hb2
              exact ⟨ρ, w', run new w' (hf.1 w rfl) (some ⟨loc.blk, loc.sh + off, none⟩) c2 hs (fun ad had => by cases had; exact h1) (fun h => by cases h), h2, by simp [V.ok]⟩
          · exact absurd e hq
        · exact absurd e hq
      · exact absurd e hq
    · exact absurd e hq
  · exact absurd e hq
end
end Go.Mx

namespace Go.Mx

section
variable {P : Program} {ρ : Ren} {tm : T V} {a : Act} {h : H} {w : World}

noncomputable def growC (c : T V) (n : Nat) (new : List V) : T V := growK c n new fun c _ => c
theorem growK_eq {β : Type} : ∀ (new : List V) (c : T V) (n : Nat) (k : T V → Nat → β), growK c n new k = k (growC c n new) (n + new.length)
  | [], c, n, k => rfl
  | v :: r, c, n, k => by
    show T.setK (Bool.rec c (.N n c (T.blank (Nat.log2 n))) (Nat.beq (Nat.pow 2 (Nat.log2 n)) n)) n v (fun c' => growK c' (Nat.succ n) r k) = _
    have e : growC c n (v :: r) = T.setK (Bool.rec c (.N n c (T.blank (Nat.log2 n))) (Nat.beq (Nat.pow 2 (Nat.log2 n)) n)) n v (fun c' => growK c' (Nat.succ n) r fun c _ => c) := rfl
    rw [e, T.setK_eq, T.setK_eq, growK_eq r, growK_eq r]
    rw [List.length_cons, show n + (r.length + 1) = Nat.succ n + r.length by omega]
theorem get_growC : ∀ {new : List V} {c : T V} {n j : Nat} {v : V}, (growC c n new).get j = some v → j < n + new.length → (j < n ∧ c.get j = some v) ∨ (n ≤ j ∧ new[j - n]? = some v)
  | [], c, n, j, v, h, hj => .inl ⟨by simpa using hj, h⟩
  | u :: r, c, n, j, v, h, hj => by
    have e : growC c n (u :: r) = T.setK (Bool.rec c (.N n c (T.blank (Nat.log2 n))) (Nat.beq (Nat.pow 2 (Nat.log2 n)) n)) n u (fun c' => growK c' (Nat.succ n) r fun c _ => c) := rfl
    rw [e, T.setK_eq, growK_eq] at h
    rcases get_growC (new := r) h (by simp at hj; omega) with ⟨h1, h2⟩ | ⟨h1, h2⟩
    · rcases T.get_set h2 with ⟨rfl, rfl⟩ | ⟨h3, h4⟩
      · exact .inr ⟨Nat.le_refl _, by simp⟩
      · refine .inl ⟨by omega, ?_⟩
        cases hb : Nat.beq (Nat.pow 2 (Nat.log2 n)) n with
        | false => rw [hb] at h4; exact h4
        | true =>
          rw [hb] at h4
          have h4 : (T.N n c (T.blank (Nat.log2 n))).get j = some v := h4
          rw [T.get_N, if_neg (by omega)] at h4
          exact h4
    · exact .inr ⟨by omega, by rw [show j - n = (j - (n + 1)) + 1 by omega, List.getElem?_cons_succ]; exact h2⟩

/-- the cells from a place on are there and may be written -/
theorem row_there {loc : Loc} {c : T V} {n off fz k : Nat} {el : TypeId} {op : Bool} (ho : ORel P ρ loc w (.cells c n el op false fz)) (hf : fz ≤ off) {arr : Array Value} {lo hi : Nat} (h1 : w.heap[loc.blk]? = some (.cells arr el (lo, hi))) (hk : loc.sh + off + k ≤ arr.size) :
    (∀ j, j < k → (w.cell? ⟨loc.blk, loc.sh + off + j, none⟩).isSome = true) ∧ (∀ j, j < k → w.frozen? ⟨loc.blk, loc.sh + off + j, none⟩ = false) := by
  obtain ⟨_, hs⟩ := ho
  obtain ⟨arr', lo', hi', h1', h2, h3, h4, h5⟩ := hs rfl
  rw [h1] at h1'
  cases h1'
  refine ⟨fun j hj => ?_, fun j hj => ?_⟩
  · rw [cell_of h1, Array.getElem?_eq_getElem (by omega)]
    rfl
  · unfold World.frozen?
    simp only [h1]
    have := h3 (off + j) (by omega) (by omega)
    by_cases hlo : lo ≤ loc.sh + off + j
    · have hnh : ¬ (loc.sh + off + j < hi) := fun h => this ⟨by omega, by omega⟩
      simp [hnh]
    · simp [hlo]

/-- a grown row -/
theorem grown_orel {c : T V} {n' fz ext : Nat} {el : TypeId} {i : TypeInfo} {vals : List Value} {rest : Array Value} (hc : ∀ j v, j < n' → c.get j = some v → vals[j]? = some (conc ρ v) ∧ v.ok ρ ∧ v.flat = true) (hl : vals.length = n') (hi : P.info? el = some i)
    (hsz : n' + rest.size = ext * i.size) : ORel P ρ ⟨w.heap.size, 0, ext⟩ (World.push w (.cells (vals.toArray ++ rest) el)) (.cells c n' el true false fz) := by
  refine ⟨fun j v hj hv => ?_, fun _ => ⟨_, 0, 0, push_new, by simp [hl], fun j _ _ => by omega, nofun, fun _ => ⟨i, hi, by simp [hl, hsz]⟩⟩⟩
  have := hc j v hj hv
  refine ⟨?_, this.2⟩
  rw [cell_of push_new]
  rw [Array.getElem?_append_left (by simp [hl]; omega)]
  simpa using this.1

theorem grown_ge (w : World) (need old : Nat) (e : TypeId) (h : need ≤ 2 ^ 62) : need ≤ grownCap w need old e := by
  exact Nat.le_add_right _ _

/-- what an append gives -/
def AppGives (P : Program) (ρ : Ren) (h : H) (w : World) (t tx ty : TypeId) (s x : Value) (q : OpR) : Prop :=
  ∃ v h', q = .val v h' ∧ ∃ ρ' w', (Builtin.append_ #[t, tx] ty #[s, x]).run P w = .ok (conc ρ' v) w' ∧ Ext P ρ h w ρ' h' w' ∧ v.ok ρ'

structure AppOf (P : Program) (ρ : Ren) (w : World) (t tx el : TypeId) (i : TypeInfo) (z : Value) (x : Value) (k : Nat) (new : List V) : Prop where
  ht : P.underlying t = some (.slice el)
  hi : P.info? el = some i
  hz : i.zero = some z
  hzs : z.cells.size = i.size
  pos : 0 < i.size
  hb : i.bytes ≤ 1000000
  src : Src P i.size tx x k (concs ρ new) w
  ok : oksF ρ new
  len : new.length = k * i.size

theorem app_grow {t tx ty el : TypeId} {i : TypeInfo} {z x : Value} {k : Nat} {new : List V} (A : AppOf P ρ w t tx el i z x k new) (r : Rel P ρ h.get w) (tp : Top ρ h) (base : Option Addr) (sLen sCap : Nat) (olds : List Value)
    (hold : (Builtin.firstCells i.size sLen (.slice base sLen sCap)).run P w.drew = .ok olds.toArray w.drew) (ho : olds.length = sLen * i.size) (hg : sCap < sLen + k) (hm : sLen + k ≤ 1000000)
    (c : T V) (n' fz : Nat) (hn : n' = sLen * i.size + k * i.size) (hc : ∀ j v, j < n' → c.get j = some v → (olds ++ concs ρ new)[j]? = some (conc ρ v) ∧ v.ok ρ ∧ v.flat = true) (len' : Nat) (hlen : len' = sLen + k) :
    AppGives P ρ h w t tx ty (.slice base sLen sCap) x (.val (.slc h.next 0 len' (.open_ 0)) (h.putNew (.cells c n' el true false fz))) := by
  subst hlen
  have hge := grown_ge w (sLen + k) sCap el (by omega)
  have hfit : Builtin.nextslicecap (sLen + k) sCap * i.bytes ≤ 281474976710656 := growslice_fits hg (by
    have : (sLen + k) * i.bytes ≤ 1000000 * 1000000 := Nat.mul_le_mul hm A.hb
    omega)
  have hrun := run_append_grow_src w t tx ty el i z A.ht A.hi A.hz base sLen sCap olds hold x k (concs ρ new) A.src hg (by omega) hfit
  have e1 := Ext.same (P := P) (w' := w.drew) r tp rfl rfl rfl
  generalize hcap : grownCap w (sLen + k) sCap el = cap at hge hrun
  have hrest : (Builtin.zeroCells z.cells (cap - (sLen + k))).size = (cap - (sLen + k)) * i.size := by simp [Builtin.zeroCells, A.hzs]
  have hORel : ORel P (ρ.add h.next ⟨w.drew.heap.size, 0, cap⟩) ⟨w.drew.heap.size, 0, cap⟩ (World.push w.drew (.cells ((olds ++ concs ρ new).toArray ++ Builtin.zeroCells z.cells (cap - (sLen + k))) el)) (.cells c n' el true false fz) :=
    orel_le (Ren.add_le (tp.dom _ (Nat.le_refl _))) (grown_orel (w := w.drew) hc (by simp [ho, concs_length, A.len, hn]) A.hi (by
      rw [hrest, hn, ← Nat.add_mul, ← Nat.add_mul]
      congr 1; omega))
  have e2 := Ext.push (P := P) (w := w.drew) (ext := cap) e1.rel tp hORel
  refine ⟨_, _, rfl, _, _, ?_, e1.trans e2, by simp only [V.ok]; exact ⟨_, Ren.add_self, by simp only [capOk]; omega⟩⟩
  rw [hrun]
  simp only [conc, Ren.at, Ren.add_self, Option.getD_some]
  rfl

theorem app_none {t tx ty el : TypeId} {i : TypeInfo} {z x : Value} {new : List V} (A : AppOf P ρ w t tx el i z x 0 new) (r : Rel P ρ h.get w) (tp : Top ρ h) {s : V} (os : s.ok ρ) (base : Option Addr) (sLen sCap : Nat) (hs : conc ρ s = .slice base sLen sCap) (hle : sLen ≤ sCap) :
    AppGives P ρ h w t tx ty (conc ρ s) x (.val s h) := by
  have hnew : new = [] := by have := A.len; simpa using this
  subst hnew
  have := run_append_nothing w t tx ty el i A.ht A.hi base sLen sCap hle x A.src
  rw [hs]
  exact ⟨_, _, rfl, ρ, w, by rw [this, hs], .refl r tp, os⟩
/-- cells of the world's own row -/
theorem run_row {b o n : Nat} {arr : Array Value} {el : TypeId} {f : Nat × Nat} {w' : World} (h1 : w.heap[b]? = some (.cells arr el f)) (hn : o + n ≤ arr.size) (hw : w'.heap = w.heap) :
    (loadCells ⟨b, o, none⟩ n).run P w' = .ok ((arr.toList.drop o).take n).toArray w' := by
  have hl : ((arr.toList.drop o).take n).length = n := by simp; omega
  have := run_loadCells_list (P := P) w' ⟨b, o, none⟩ ((arr.toList.drop o).take n) (fun j v hj => by
    rw [addr_add]
    rw [← hw] at h1
    rw [cell_of h1, ← hj, List.getElem?_take, List.getElem?_drop]
    have : j < n := by
      rcases Nat.lt_or_ge j n with h | h
      · exact h
      · rw [List.getElem?_eq_none (by omega)] at hj; cases hj
    rw [if_pos this, Array.getElem?_toList])
  rw [hl] at this
  exact this

theorem app_open {t tx ty el : TypeId} {i : TypeInfo} {z x : Value} {k : Nat} {new : List V} (A : AppOf P ρ w t tx el i z x k new) (r : Rel P ρ h.get w) (tp : Top ρ h) {id off len : Nat} {cap : Cap} (os : (V.slc id off len cap).ok ρ)
    (hk : 0 < k) (hm : len + k ≤ 1000000) {c : T V} {n fz : Nat} (hg : h.get id = some (.cells c n el true false fz)) (hf : fz ≤ off + len * i.size) (hoff : off = capLo cap * i.size) (hn : off + len * i.size ≤ n) (hcap : ∀ m, cap ≠ .known m)
    (c' : T V) (n' fz' : Nat) (hn' : n' = len * i.size + k * i.size) (hfz : fz ≤ off + fz') (hc : ∀ j v, j < n' → c'.get j = some v → (j < len * i.size ∧ c.get (off + j) = some v) ∨ (len * i.size ≤ j ∧ new[j - len * i.size]? = some v)) :
    AppGives P ρ h w t tx ty (conc ρ (.slc id off len cap)) x (.val (.slc h.next 0 (len + k) (.open_ 0)) ((h.put id .dead).putNew (.cells c' n' el true false fz'))) := by
  have hok := os
  simp only [V.ok] at os
  obtain ⟨loc, hl, hco⟩ := os
  have hat : ρ.at id = loc := by simp [Ren.at, hl]
  have hORel := (r.obj id loc hl).2 _ hg
  have hcells := hORel.1
  obtain ⟨arr, lo, hi, h1, h2, h3, h4, h5⟩ := hORel.2 rfl
  obtain ⟨ie, hie, hsz⟩ := h5 rfl
  rw [A.hi] at hie
  cases hie
  have hid : id < h.next := by
    rcases Nat.lt_or_ge id h.next with hh | hh
    · exact hh
    · rw [tp.dom id hh] at hl; cases hl
  -- the slice's base and capacity in the world
  have hshape : ∃ o cc, conc ρ (.slc id off len cap) = .slice (some ⟨loc.blk, o, none⟩) len cc ∧ ((o = loc.sh + off ∧ cc = loc.ext - capLo cap ∧ len + capLo cap ≤ loc.ext) ∨ (len = 0 ∧ cc = 0)) := by
    cases cap with
    | known m => exact absurd rfl (hcap m)
    | open_ lo =>
      simp only [capOk] at hco
      exact ⟨_, _, by simp only [conc, hat]; rfl, .inl ⟨rfl, rfl, by show len + lo ≤ _; omega⟩⟩
    | end_ o0 lo =>
      simp only [capOk] at hco
      by_cases hx : loc.ext = lo
      · exact ⟨_, _, by simp only [conc, hat, if_pos hx]; rfl, .inr ⟨hco.1, rfl⟩⟩
      · exact ⟨_, _, by simp only [conc, hat, if_neg hx]; rfl, .inl ⟨rfl, rfl, by show len + lo ≤ _; omega⟩⟩
  obtain ⟨o, cc, hs, hshape⟩ := hshape
  have hnewlen : (concs ρ new).length = k * i.size := by rw [concs_length, A.len]
  by_cases hroom : len + k ≤ cc
  · -- in place
    rcases hshape with ⟨rfl, rfl, hext⟩ | ⟨rfl, rfl⟩
    · have hsz' : arr.size = loc.sh + off + (loc.ext - capLo cap) * i.size := by
        have : loc.ext * i.size = capLo cap * i.size + (loc.ext - capLo cap) * i.size := by rw [← Nat.add_mul]; congr 1; omega
        rw [hsz, hoff]; omega
      have hfit : loc.sh + (off + len * i.size) + k * i.size ≤ arr.size := by
        have : (len + k) * i.size ≤ (loc.ext - capLo cap) * i.size := Nat.mul_le_mul_right _ hroom
        rw [Nat.add_mul] at this
        omega
      have hth := row_there (k := k * i.size) hORel hf h1 hfit
      have hrun := run_append_room_src w t tx ty el i A.ht A.hi loc.blk (loc.sh + off) len (loc.ext - capLo cap) x k (concs ρ new) A.src hroom
        (fun j hj => by rw [hnewlen] at hj; rw [show loc.sh + off + len * i.size + j = loc.sh + (off + len * i.size) + j by omega]; exact hth.1 j hj)
        (fun j hj => by rw [hnewlen] at hj; rw [show loc.sh + off + len * i.size + j = loc.sh + (off + len * i.size) + j by omega]; exact hth.2 j hj)
      have hoth := setCells_other (b := loc.blk) (concs ρ new) (loc.sh + off + len * i.size) w
      obtain ⟨arr', h6, h7⟩ := setCells_heap (concs ρ new) (loc.sh + off + len * i.size) w arr h1
      let loc' : Loc := ⟨loc.blk, loc.sh + off, loc.ext - capLo cap⟩
      have hO : ORel P ρ loc' (w.setCells loc.blk (loc.sh + off + len * i.size) (concs ρ new)) (.cells c' n' el true false fz') := by
        refine ⟨fun j v hj hv => ?_, fun _ => ⟨arr', lo, hi, h6, ?_, fun j hj hj' => ?_, nofun, fun _ => ⟨i, A.hi, by rw [h7]; exact hsz'⟩⟩⟩
        · rcases hc j v hj hv with ⟨hj1, hv1⟩ | ⟨hj1, hv1⟩
          · have := hcells (off + j) v (by omega) hv1
            refine ⟨?_, this.2⟩
            rw [World.cell?_setCells_out loc.blk (concs ρ new) _ w _ (fun _ _ => by left; show loc.sh + off + j < _; omega)]
            show w.cell? ⟨loc.blk, loc.sh + off + j, none⟩ = _
            rw [show loc.sh + off + j = loc.sh + (off + j) by omega]
            exact this.1
          · have hlt : j - len * i.size < (concs ρ new).length := by rw [hnewlen]; omega
            have hin := World.cell?_setCells_in loc.blk (concs ρ new) (loc.sh + off + len * i.size) w (fun q hq => by
              rw [hnewlen] at hq; rw [show loc.sh + off + len * i.size + q = loc.sh + (off + len * i.size) + q by omega]; exact hth.1 q hq) (j - len * i.size) hlt
            refine ⟨?_, oksF_iff.1 A.ok v (List.mem_of_getElem? hv1)⟩
            show (w.setCells loc.blk (loc.sh + off + len * i.size) (concs ρ new)).cell? ⟨loc.blk, loc.sh + off + j, none⟩ = _
            rw [show loc.sh + off + j = loc.sh + off + len * i.size + (j - len * i.size) by omega, hin]
            have : (concs ρ new)[j - len * i.size]? = some (conc ρ v) := by rw [concs_getElem?, hv1]; rfl
            rw [List.getElem?_eq_getElem hlt] at this
            exact this
        · show loc.sh + off + n' ≤ arr'.size
          rw [h7, hn']; omega
        · have := h3 (off + j) (by omega) (by show loc.sh + (off + j) < arr.size; have : loc.sh + off + j < arr'.size := hj'; omega)
          show ¬ (lo ≤ loc.sh + off + j ∧ loc.sh + off + j < hi)
          rw [show loc.sh + off + j = loc.sh + (off + j) by omega]
          exact this
      have hE := Ext.rename (P := P) (loc' := loc') r tp hl hg rfl rfl hoth.1 hoth.2.1 (orel_le (Ren.add_le (tp.dom _ (Nat.le_refl _))) hO) hoth.2.2.1 hoth.2.2.2
      refine ⟨_, _, rfl, _, _, ?_, hE, by simp only [V.ok]; exact ⟨_, Ren.add_self, by simp only [capOk]; show 0 + (len + k) ≤ loc.ext - capLo cap; omega⟩⟩
      rw [hs, hrun]
      simp only [conc, Ren.at, Ren.add_self, Option.getD_some]
      rfl
    · omega
  · -- a new row
    have ek := Ext.kill (P := P) hid r tp
    have hlen0 : len = 0 ∨ o = loc.sh + off := by
      rcases hshape with ⟨h, _⟩ | ⟨h, _⟩
      · exact .inr h
      · exact .inl h
    let olds := (arr.toList.drop (loc.sh + off)).take (len * i.size)
    have holen : olds.length = len * i.size := by
      show ((arr.toList.drop (loc.sh + off)).take (len * i.size)).length = _
      simp; omega
    have hold : (Builtin.firstCells i.size len (.slice (some ⟨loc.blk, o, none⟩) len cc)).run P w.drew = .ok olds.toArray w.drew := by
      simp only [Builtin.firstCells]
      rcases hlen0 with h0 | rfl
      · subst h0
        have : olds = [] := by
          have := holen
          simpa using this
        rw [this]
        simp [loadCells, loadCellsFrom]
      · exact run_row h1 (by omega) rfl
    have ag := app_grow (ty := ty) A ek.rel ek.top (some ⟨loc.blk, o, none⟩) len cc olds hold holen (by omega) hm c' n' fz' hn' (fun j v hj hv => by
      rcases hc j v hj hv with ⟨hj1, hv1⟩ | ⟨hj1, hv1⟩
      · have := hcells (off + j) v (by omega) hv1
        refine ⟨?_, this.2⟩
        rw [List.getElem?_append_left (by rw [holen]; exact hj1)]
        show ((arr.toList.drop (loc.sh + off)).take (len * i.size))[j]? = _
        rw [List.getElem?_take, if_pos hj1, List.getElem?_drop, Array.getElem?_toList, show loc.sh + off + j = loc.sh + (off + j) by omega, ← cell_of h1]
        exact this.1
      · refine ⟨?_, oksF_iff.1 A.ok v (List.mem_of_getElem? hv1)⟩
        rw [List.getElem?_append_right (by rw [holen]; exact hj1), holen, concs_getElem?, hv1]
        rfl) (len + k) rfl
    rw [hs]
    obtain ⟨v, h', e, ρ', w', e1, e2, e3⟩ := ag
    cases e
    exact ⟨_, _, rfl, ρ', w', e1, ek.trans e2, e3⟩
end
end Go.Mx

namespace Go.Mx

section
variable {P : Program} {ρ : Ren} {tm : T V} {a : Act} {h : H} {w : World}

theorem brec_split {β : Type} {c : Bool} {x y r : β} (h : (Bool.rec x y c : β) = r) : (c = false ∧ x = r) ∨ (c = true ∧ y = r) := by
  cases c with
  | false => exact .inl ⟨rfl, h⟩
  | true => exact .inr ⟨rfl, h⟩

theorem xAppend_ok {t tx ty el : TypeId} {i : TypeInfo} {z x : Value} {k : Nat} {new : List V} (A : AppOf P ρ w t tx el i z x k new) (r : Rel P ρ h.get w) (tp : Top ρ h) {s : V} (os : s.ok ρ)
    (hm : k + (Option.rec 0 (fun n => n) (lenV s) : Nat) ≤ 1000000) {q : OpR} (hq : OpR.no ≠ q) (e : xAppend (Env.of P) h el i.size s k new = q) : AppGives P ρ h w t tx ty (conc ρ s) x q := by
  unfold xAppend at e
  split at e
  · -- nil
    replace e := brec_split e
    rcases e with ⟨hb, e⟩ | ⟨hb, e⟩
    · skip
      rw [natF_eq, newK_eq] at e
      subst e
      have hk : 0 < k := by
        rcases Nat.eq_zero_or_pos k with h0 | h0
        · subst h0; cases hb
        · exact h0
      refine app_grow A r tp none 0 0 [] (by simp [Builtin.firstCells]) (by simp) (by omega) (by simpa [lenV] using hm) _ _ 0 (by simp) (fun j v hj hv => ?_) k (by omega)
      have hc : new[j]? = some v := T.get_ofL hv
      exact ⟨by simp [concs_getElem?, hc], oksF_iff.1 A.ok v (List.mem_of_getElem? hc)⟩
    · skip
      subst e
      have hk := Nat.eq_of_beq_eq_true hb
      subst hk
      exact app_none A r tp os none 0 0 rfl (Nat.le_refl _)
  · rename_i id off len cap
    have hlen : k + len ≤ 1000000 := hm
    replace e := gcells_inv e hq
    obtain ⟨c, n, el', op, ro, fz, hg, e⟩ := e
    have hnone : k = 0 → q = .val (.slc id off len cap) h → AppGives P ρ h w t tx ty (conc ρ (.slc id off len cap)) x q := fun hk hq' => by
      subst hk; subst hq'
      obtain ⟨loc, o, cc, _, hs, _, hle⟩ := slc_at os
      exact app_none A r tp os _ len cc hs hle
    split at e
    · -- a known capacity
      rename_i m
      replace e := brec_split e
      rcases e with ⟨hb, e⟩ | ⟨hb, e⟩
      · skip
        split at e
        · rename_i old hold
          split at hold
          · rename_i hle
            rw [natF_eq, natF_eq, newK_eq] at e
            subst e
            have hc := getCells_ok hold
            obtain ⟨loc, o, cc, hl, hs, ho, _⟩ := slc_at os
            have hcc : cc = m := by
              have hat : ρ.at id = loc := by simp [Ren.at, hl]
              simp only [conc, hat] at hs
              cases hs; rfl
            subst hcc
            have hrel := ((r.obj id loc hl).2 _ hg).1
            have hcell : ∀ j v, old[j]? = some v → w.cell? ⟨loc.blk, loc.sh + off + j, none⟩ = some (conc ρ v) ∧ v.ok ρ ∧ v.flat = true := fun j v hj => by
              have hlt : j < old.length := by
                rcases Nat.lt_or_ge j old.length with h1 | h1
                · exact h1
                · rw [List.getElem?_eq_none h1] at hj; cases hj
              rw [hc.1] at hlt
              rw [show loc.sh + off + j = loc.sh + (off + j) by omega]
              exact hrel (off + j) v (by omega) (hc.2 j v hj)
            have hgt : cc < len + k := by
              rcases Nat.lt_or_ge cc (len + k) with h1 | h1
              · exact h1
              · rw [Nat.ble_eq_true_of_le h1] at hb; cases hb
            have hold' : (Builtin.firstCells i.size len (.slice (some ⟨loc.blk, o, none⟩) len cc)).run P w.drew = .ok (concs ρ old).toArray w.drew := by
              simp only [Builtin.firstCells]
              rw [← hc.1]
              refine run_cells (P := P) (ρ := ρ) (l := old) fun j v hj => ?_
              have hlt : j < old.length := by
                rcases Nat.lt_or_ge j old.length with h1 | h1
                · exact h1
                · rw [List.getElem?_eq_none h1] at hj; cases hj
              rcases ho with h0 | rfl
              · rw [hc.1, h0] at hlt; simp at hlt
              · exact (hcell j v hj).1
            rw [hs]
            refine app_grow A r tp (some ⟨loc.blk, o, none⟩) len cc (concs ρ old) hold' (by rw [concs_length, hc.1]) hgt (by omega) _ _ 0 rfl (fun j v hj hv => ?_) (len + k) rfl
            have hc' : (old ++ new)[j]? = some v := T.get_ofL hv
            refine ⟨?_, ?_⟩
            · rw [show concs ρ old ++ concs ρ new = concs ρ (old ++ new) by simp [concs_map], concs_getElem?, hc']
              rfl
            · rcases List.mem_append.1 (List.mem_of_getElem? hc') with hm' | hm'
              · exact (hcell _ v (List.getElem?_of_mem hm').choose_spec).2
              · exact oksF_iff.1 A.ok v hm'
          · cases hold
        · exact absurd e hq
      · skip
        have hle := Nat.le_of_ble_eq_true hb
        replace e := brec_split e
        rcases e with ⟨hb, e⟩ | ⟨hb, e⟩
        · skip
          replace e := brec_inv e hq
          obtain ⟨hbb, e⟩ := e
          rw [setCellsK_eq, putK_eq, natF_eq] at e
          subst e
          simp only [Bool.and_eq_true] at hbb
          obtain ⟨hb1, hb2, hb3⟩ := hbb
          have hb1 := Nat.le_of_ble_eq_true hb1
          have hb2 := Nat.le_of_ble_eq_true hb2
          have hro : ro = false := by cases ro <;> simp_all
          subst hro
          simp only [V.ok] at os
          obtain ⟨loc, hl, hcap⟩ := os
          have hat : ρ.at id = loc := by simp [Ren.at, hl]
          have hORel := (r.obj id loc hl).2 _ hg
          obtain ⟨arr, lo, hi, h1, h2, _⟩ := hORel.2 rfl
          have hnewlen : (concs ρ new).length = k * i.size := by rw [concs_length, A.len]
          have hth := row_there (k := k * i.size) hORel hb2 h1 (by omega)
          have hrun := run_append_room_src w t tx ty el i A.ht A.hi loc.blk (loc.sh + off) len m x k (concs ρ new) A.src hle
            (fun j hj => by rw [hnewlen] at hj; rw [show loc.sh + off + len * i.size + j = loc.sh + (off + len * i.size) + j by omega]; exact hth.1 j hj)
            (fun j hj => by rw [hnewlen] at hj; rw [show loc.sh + off + len * i.size + j = loc.sh + (off + len * i.size) + j by omega]; exact hth.2 j hj)
          have hw := cells_write (P := P) hORel A.ok (off := off + len * i.size) (by rw [A.len]; exact hb1) hb2
          have hoth := setCells_other (b := loc.blk) (concs ρ new) (loc.sh + (off + len * i.size)) w
          have hE := Ext.write r tp hl hg rfl hoth.1 hoth.2.1 hw.2 hoth.2.2.1 hoth.2.2.2
          refine ⟨_, _, rfl, ρ, _, ?_, hE, by simp only [V.ok]; exact ⟨loc, hl, hle⟩⟩
          simp only [conc, hat]
          rw [hrun, show loc.sh + off + len * i.size = loc.sh + (off + len * i.size) by omega]
        · skip
          exact hnone (Nat.eq_of_beq_eq_true hb) e.symm
    · -- an open one
      rename_i hcap
      replace e := brec_split e
      rcases e with ⟨hb, e⟩ | ⟨hb, e⟩
      · skip
        have hk : 0 < k := by
          rcases Nat.eq_zero_or_pos k with h0 | h0
          · subst h0; cases hb
          · exact h0
        replace e := brec_inv e hq
        obtain ⟨hbb, e⟩ := e
        rw [natF_eq] at e
        simp only [Bool.and_eq_true] at hbb
        obtain ⟨hop, hro, hel, hfz, hoff, hle⟩ := hbb
        subst hop
        have hro : ro = false := by cases ro <;> simp_all
        subst hro
        have hel := Nat.eq_of_beq_eq_true hel
        subst hel
        have hfz := Nat.le_of_ble_eq_true hfz
        have hoff := Nat.eq_of_beq_eq_true hoff
        have hle := Nat.le_of_ble_eq_true hle
        replace e := brec_split e
        rcases e with ⟨hg0, e⟩ | ⟨hg0, e⟩
        · skip
          split at e
          · rename_i old hold
            have hc := getCells_ok hold
            rw [natF_eq, natF_eq, putK_eq, newK_eq] at e
            subst e
            have hnx : (h.put id .dead).next = h.next := rfl
            rw [hnx]
            refine app_open A r tp os hk (by omega) hg hfz hoff hle hcap _ _ _ rfl (by omega) (fun j v hj hv => ?_)
            have hc' : (old ++ new)[j]? = some v := T.get_ofL hv
            by_cases hj' : j < len * i.size
            · rw [List.getElem?_append_left (by rw [hc.1]; exact hj')] at hc'
              exact .inl ⟨hj', hc.2 j v hc'⟩
            · rw [List.getElem?_append_right (by rw [hc.1]; omega), hc.1] at hc'
              exact .inr ⟨by omega, hc'⟩
          · exact absurd e hq
        · skip
          simp only [Bool.and_eq_true] at hg0
          have ho0 := Nat.eq_of_beq_eq_true hg0.1
          have hn0 := Nat.eq_of_beq_eq_true hg0.2
          subst ho0
          subst hn0
          rw [growK_eq, putK_eq, newK_eq] at e
          subst e
          have hnx : (h.put id .dead).next = h.next := rfl
          rw [hnx]
          refine app_open A r tp os hk (by omega) hg hfz hoff hle hcap _ _ _ (by rw [A.len]) (by omega) (fun j v hj hv => ?_)
          rcases get_growC hv hj with ⟨h1, h2⟩ | ⟨h1, h2⟩
          · exact .inl ⟨h1, by rw [Nat.zero_add]; exact h2⟩
          · exact .inr ⟨h1, h2⟩
      · skip
        exact hnone (Nat.eq_of_beq_eq_true hb) e.symm
  · exact absurd e hq

theorem xCallAppend_ok (fr : Fr P ρ tm a) (r : Rel P ρ h.get w) (t : Top ρ h) {c : Call} {q : OpR} (hb : c.callee = .builtin .append) (e : xCallAppend c.argTypes c.args (Env.of P) tm h = q) : XGives P ρ h w a (.call c) q := by
  by_cases hq : q = .no
  · exact XGives.no' hq
  have hq : OpR.no ≠ q := Ne.symm hq
  unfold xCallAppend at e
  replace e := opdsK_inv fr e hq
  obtain ⟨l, el, ol, e⟩ := e
  split at e
  · rename_i s x t0 t1 htys
    have hargs : c.args.map a.eval = #[conc ρ s, conc ρ x] := by
      apply Array.ext'
      rw [Array.toList_map, el]; rfl
    have htya : c.argTypes = #[t0, t1] := by
      apply Array.ext'
      rw [htys]
    simp only [oks] at ol
    obtain ⟨os, ox, _⟩ := ol
    split at e
    · rename_i elm d hd hd1
      split at e
      · rename_i i k z hseq hi hk hz
        split at e
        · rename_i new hnew
          replace e := brec_inv e hq
          obtain ⟨hbb, e⟩ := e
          simp only [Bool.and_eq_true] at hbb
          obtain ⟨hb1, hb2, hb3, hb4, hb5, hb6⟩ := hbb
          have hb1 := Nat.eq_of_beq_eq_true hb1
          have hb2 := Nat.eq_of_beq_eq_true hb2
          have hpos : 0 < i.size := by
            have h6 : (!Nat.beq i.size 0) = true := hb3
            rcases Nat.eq_zero_or_pos i.size with h7 | h7
            · rw [h7] at h6; cases h6
            · exact h7
          have hb5 := Nat.le_of_ble_eq_true hb5
          have hb6 := Nat.le_of_ble_eq_true hb6
          have hi := types_get hi
          obtain ⟨i', z', h1, h2, h3⟩ := zcells_ok hz
          rw [hi] at h1
          cases h1
          have hf := firstG_ok r ox hnew hk (Nat.le_refl _)
          have hkind : (∃ e', P.underlying t1 = some (.slice e')) ∨ P.underlying t1 = some .string := by
            have hd1 := und_ok hd1
            cases d <;> simp [seqTy] at hseq
            · exact .inr hd1
            · exact .inl ⟨_, hd1⟩
          have A : AppOf P ρ w t0 t1 elm i z' (conc ρ x) k new := {
            ht := und_ok hd
            hi := hi
            hz := h2
            hzs := by rw [(h3 ρ).1]; simp [concs_length, hb2]
            pos := hpos
            hb := hb5
            src := { kind := hkind, len := lenV_ok hk, cells := hf.1 w rfl, cellsD := hf.1 w.drew rfl, newsLen := by rw [concs_length, hb1], one := oneCells hf.2.1 }
            ok := hf.2.1
            len := hb1 }
          obtain ⟨v, h', rfl, ρ', w', e2, e3, e4⟩ := xAppend_ok (ty := 0) A r t os hb6 hq e
          refine ⟨ρ', w', fun oo ho => ?_, e3, e4⟩
          have e2' : (Builtin.append_ #[t0, t1] oo.type #[conc ρ s, conc ρ x]).run P w = .ok (conc ρ' v) w' := e2
          simp [execOp, ho, resolve, hb, invoke, builtin, htya, hargs, e2']
        · exact absurd e hq
      · exact absurd e hq
    · exact absurd e hq
  · exact absurd e hq
end
end Go.Mx

namespace Go.Mx

section
variable {P : Program} {ρ : Ren} {tm : T V} {a : Act} {h : H} {w : World}

theorem setNth_map {ρ : Ren} : ∀ (es : List (V × V × Nat)) (i : Nat) (e : V × V × Nat), (setNth es i e).map (entry ρ) = (es.map (entry ρ)).set i (entry ρ e)
  | [], _, _ => by simp [setNth]
  | x :: r, 0, e => by simp [setNth]
  | x :: r, n + 1, e => by simp [setNth, setNth_map r n e]
theorem setNth_mem {es : List (V × V × Nat)} {i : Nat} {e x : V × V × Nat} : x ∈ setNth es i e → x ∈ es ∨ x = e := by
  induction es generalizing i with
  | nil => simp [setNth]
  | cons y r ih =>
    cases i with
    | zero => simp [setNth]; intro h; rcases h with h | h <;> simp [h]
    | succ n =>
      simp only [setNth, List.mem_cons]
      intro h
      rcases h with h | h
      · exact .inl (.inl h)
      · rcases ih h with h | h
        · exact .inl (.inr h)
        · exact .inr h

/-- a map's block is set anew -/
theorem map_write {id : Nat} {loc : Loc} {es es' : List (V × V × Nat)} {clock clock' : Nat} (r : Rel P ρ h.get w) (t : Top ρ h) (hl : ρ id = some loc) (hg : h.get id = some (.map es clock))
    (ok : ∀ e ∈ es', e.1.ok ρ ∧ e.2.1.ok ρ) : ∃ w', (setObj loc.blk (.map ⟨es'.map (entry ρ)⟩ clock')).run P w = .ok () w' ∧ Ext P ρ h w ρ (h.put id (.map es' clock')) w' := by
  have hlt := (r.obj id loc hl).1
  have hg' : w.heap[loc.blk]? = some (.map ⟨es.map (entry ρ)⟩ clock) := ((r.obj id loc hl).2 _ hg).1
  refine ⟨{ w with heap := w.heap.setIfInBounds loc.blk (.map ⟨es'.map (entry ρ)⟩ clock') }, ?_, Ext.write r t hl hg rfl (by simp) (fun b hb => by simp [Array.getElem?_setIfInBounds, Ne.symm hb]) ⟨by simp [hlt], ok⟩ rfl rfl⟩
  simp [setObj, Sem.run, hg']
theorem same1_ok {u v : V} (e : same1 u v = true) : conc ρ u = conc ρ v ∧ ∀ n, Instr.sameBits n (conc ρ u) (conc ρ v) = true := by
  unfold same1 at e
  split at e
  · have := eq_of_beq e
    subst this
    exact ⟨rfl, fun n => by simp [conc, Instr.sameBits]⟩
  · simp only [Bool.and_eq_true] at e
    have h1 := kindN_inj e.1
    have h2 := e.2
    rw [eqI_dec] at h2
    have h2 := of_decide_eq_true h2
    subst h1; subst h2
    exact ⟨rfl, fun n => by simp [conc, Instr.sameBits]⟩
  · rw [bytesEq_iff] at e
    have h2 := of_decide_eq_true e
    subst h2
    refine ⟨rfl, fun n => ?_⟩
    rename_i l
    have hab : ∀ b : ByteArray, (b == b) = true := fun b => by
      have : (b == b) = (b.data == b.data) := by cases b; rfl
      rw [this]; simp
    simp [conc, Instr.sameBits, hab]
  · cases e
theorem sameL_ok : ∀ {xs ys : List V}, sameL xs ys = true → concs ρ xs = concs ρ ys ∧ ∀ n, (((concs ρ xs).zip (concs ρ ys)).all fun (x, y) => Instr.sameBits n x y) = true
  | [], [], e => ⟨rfl, fun n => rfl⟩
  | x :: xs, y :: ys, e => by
    simp only [sameL, Bool.and_eq_true] at e
    have h1 := same1_ok (ρ := ρ) e.1
    have h2 := sameL_ok (xs := xs) e.2
    refine ⟨by simp only [concs, h1.1, h2.1], fun n => ?_⟩
    simp only [concs, List.zip_cons_cons, List.all_cons, Bool.and_eq_true]
    exact ⟨h1.2 n, h2.2 n⟩
  | [], _ :: _, e => by cases e
  | _ :: _, [], e => by cases e
theorem sameV_ok {u v : V} (e : sameV u v = true) (n : Nat) : Instr.sameBits (n + 1) (conc ρ u) (conc ρ v) = true := by
  unfold sameV at e
  split at e
  · have h := sameL_ok (ρ := ρ) e
    simp only [conc, Instr.sameBits, Bool.and_eq_true]
    refine ⟨by simp [h.1], h.2 n⟩
  · exact (same1_ok e).2 _

theorem keyStays {es : List (V × V × Nat)} {i : Nat} {k : V} (e : sameAt es i k = true) (w : World) : (Instr.keyThatStays ((((⟨es.map (entry ρ)⟩ : Array MapEntry)[i]?).map (·.key)).getD (conc ρ k)) (conc ρ k)).run P w = .ok (conc ρ k) w := by
  unfold sameAt at e
  split at e
  · rename_i x hx
    have h2 : (⟨es.map (entry ρ)⟩ : Array MapEntry)[i]? = some (entry ρ x) := by simp [hx]
    rw [h2]
    have := sameV_ok (ρ := ρ) e 9999
    simp [Instr.keyThatStays, entry, this]
  · cases e

theorem modify_set {es : List (V × V × Nat)} {i : Nat} {e : V × V × Nat} {f : MapEntry → MapEntry} {e' : V × V × Nat} (hi : es[i]? = some e) (hf : f (entry ρ e) = entry ρ e') :
    (⟨es.map (entry ρ)⟩ : Array MapEntry).modify i f = ⟨(setNth es i e').map (entry ρ)⟩ := by
  rw [setNth_map]
  apply Array.ext_getElem?
  intro j
  rw [Array.getElem?_modify]
  by_cases hj : i = j
  · subst hj
    simp only [if_true]
    have hlt : i < es.length := by
      rcases Nat.lt_or_ge i es.length with h1 | h1
      · exact h1
      · rw [List.getElem?_eq_none h1] at hi; cases hi
    have hg : es[i] = e := by rw [List.getElem?_eq_getElem hlt] at hi; exact Option.some.inj hi
    simp [hg, hf, List.getElem?_set, hlt]
  · simp only [hj, if_false]
    simp [List.getElem?_set, hj]

/-- the map's block, read -/
theorem map_read {id : Nat} {loc : Loc} {es : List (V × V × Nat)} {clock : Nat} (r : Rel P ρ h.get w) (hl : ρ id = some loc) (hg : h.get id = some (.map es clock)) :
    (getObj loc.blk).run P w = .ok (.map ⟨es.map (entry ρ)⟩ clock) w ∧ ∀ e ∈ es, e.1.ok ρ ∧ e.2.1.ok ρ := by
  have := (r.obj id loc hl).2 _ hg
  exact ⟨by simp [getObj, Sem.run, this.1], this.2⟩

theorem xMapUpdate_ok (fr : Fr P ρ tm a) (r : Rel P ρ h.get w) (t : Top ρ h) {ty : TypeId} {x y z : Operand} {q : OpR} (e : xMapUpdate ty x y z (Env.of P) tm h = q) :
    XGives P ρ h w a (.mapUpdate ty x y z) q ∧ XGives P ρ h w a (.insert ty x y z) q := by
  by_cases hq : q = .no
  · exact ⟨XGives.no' hq, XGives.no' hq⟩
  have hq : OpR.no ≠ q := Ne.symm hq
  unfold xMapUpdate at e
  replace e := opdK_inv fr e hq
  obtain ⟨m, em, om, e⟩ := e
  replace e := opdK_inv fr e hq
  obtain ⟨k, ek, ok, e⟩ := e
  replace e := opdK_inv fr e hq
  obtain ⟨v, ev, ov, e⟩ := e
  have key : ∃ h', q = .skip h' ∧ ∃ ρ' w', (Instr.mapUpdate ty (a.eval x) (a.eval y) (a.eval z)).run P w = .ok () w' ∧ Ext P ρ h w ρ' h' w' := by
    split at e
    · rename_i id key el hd
      split at e
      · rename_i es c hg
        replace e := brec_inv e hq
        obtain ⟨hkey, e⟩ := e
        obtain ⟨kd, hkd⟩ := keyOk_und hkey
        simp only [V.ok] at om
        obtain ⟨loc, hl⟩ := om
        have hat : ρ.at id = loc := by simp [Ren.at, hl]
        simp only [conc, hat] at em
        obtain ⟨hgo, hok⟩ := map_read r hl hg
        have hck := keyOk_ok 6 key k hkey ok false 10000 (by omega) w
        split at e
        · rename_i i v0 b hf
          replace e := brec_inv e hq
          obtain ⟨hsame, e⟩ := e
          rw [putK_eq] at e
          have hfk := findKey_ok hkd ok w hf hok
          obtain ⟨_, k0, hi⟩ := findKey_mem hf
          rw [Nat.sub_zero] at hi
          obtain ⟨w', h1, h2⟩ := map_write (es' := setNth es i (k, v, b)) (clock' := c) r t hl hg (fun e' he' => by
            rcases setNth_mem he' with h3 | h3
            · exact hok e' h3
            · subst h3; exact ⟨ok, ov⟩)
          refine ⟨_, e.symm, ρ, w', ?_, h2⟩
          have hst := keyStays (P := P) (ρ := ρ) hsame w
          have hmod := modify_set (ρ := ρ) (f := fun e => { e with key := conc ρ k, val := conc ρ v }) (e' := (k, v, b)) hi rfl
          simp only [Instr.mapUpdate, Sem.run_bind, run_und hd, Result.andThen_ok, em, ek, ev, hgo, hck, hfk, found, Option.map_some, hst, hmod, h1]
        · rename_i hf
          rw [natF_eq, putK_eq] at e
          have hfk := findKey_ok hkd ok w hf hok
          obtain ⟨w', h1, h2⟩ := map_write (es' := es ++ [(k, v, c)]) (clock' := c + 1) r t hl hg (fun e' he' => by
            rcases List.mem_append.1 he' with h3 | h3
            · exact hok e' h3
            · simp at h3; subst h3; exact ⟨ok, ov⟩)
          refine ⟨_, e.symm, ρ, w', ?_, h2⟩
          have hpush : (⟨es.map (entry ρ)⟩ : Array MapEntry).push { key := conc ρ k, val := conc ρ v, born := c } = ⟨(es ++ [(k, v, c)]).map (entry ρ)⟩ := by
            simp [entry]
          simp only [Instr.mapUpdate, Sem.run_bind, run_und hd, Result.andThen_ok, em, ek, ev, hgo, hck, hfk, found, Option.map_none, hpush, h1]
        · exact absurd e hq
      · exact absurd e hq
    · exact absurd e hq
  obtain ⟨h', rfl, ρ', w', h1, h2⟩ := key
  exact ⟨⟨ρ', w', fun oo ho => by simp [execOp, ho, h1], h2⟩, ⟨ρ', w', fun oo ho => by simp [execOp, ho, h1], h2⟩⟩

theorem xMapEntry_ok (fr : Fr P ρ tm a) (r : Rel P ρ h.get w) (t : Top ρ h) {ty : TypeId} {x y : Operand} {q : OpR} (e : xMapEntry ty x y (Env.of P) tm h = q) :
    XGives P ρ h w a (.mapEntry ty x y) q := by
  by_cases hq : q = .no
  · exact XGives.no' hq
  have hq : OpR.no ≠ q := Ne.symm hq
  unfold xMapEntry at e
  replace e := opdK_inv fr e hq
  obtain ⟨m, em, om, e⟩ := e
  replace e := opdK_inv fr e hq
  obtain ⟨k, ek, ok, e⟩ := e
  split at e
  · rename_i id key el hd
    split at e
    · rename_i es c hg
      replace e := brec_inv e hq
      obtain ⟨hkey, e⟩ := e
      obtain ⟨kd, hkd⟩ := keyOk_und hkey
      simp only [V.ok] at om
      obtain ⟨loc, hl⟩ := om
      have hat : ρ.at id = loc := by simp [Ren.at, hl]
      simp only [conc, hat] at em
      obtain ⟨hgo, hok⟩ := map_read r hl hg
      have hck := keyOk_ok 6 key k hkey ok false 10000 (by omega) w
      split at e
      · rename_i i v b hf
        replace e := brec_inv e hq
        obtain ⟨hsame, e⟩ := e
        rw [putK_eq] at e
        have hfk := findKey_ok hkd ok w hf hok
        obtain ⟨_, k0, hi⟩ := findKey_mem hf
        rw [Nat.sub_zero] at hi
        have ov := (hok _ (List.mem_of_getElem? hi)).2
        obtain ⟨w', h1, h2⟩ := map_write (es' := setNth es i (k, v, b)) (clock' := c) r t hl hg (fun e' he' => by
          rcases setNth_mem he' with h3 | h3
          · exact hok e' h3
          · subst h3; exact ⟨ok, ov⟩)
        subst e
        have hst := keyStays (P := P) (ρ := ρ) hsame w
        have hmod := modify_set (ρ := ρ) (f := fun e => { e with key := conc ρ k }) (e' := (k, v, b)) hi rfl
        have hborn : ((((⟨es.map (entry ρ)⟩ : Array MapEntry)[i]?).map (·.born)).getD 0) = b := by simp [hi, entry]
        refine ⟨ρ, w', fun oo ho => ?_, h2, by simp only [V.ok, oks, and_true]; exact ov⟩
        simp only [execOp, ho, Instr.mapEntry, Sem.run_bind, run_und hd, Result.andThen_ok, em, ek, hgo, hck, hfk, found, Option.map_some, hst, hmod, h1, hborn, Sem.run_pure]
        simp [conc, concs, goInt, hi, entry]
      · rename_i hf
        split at e
        · rename_i z hz
          rw [natF_eq, putK_eq] at e
          have hfk := findKey_ok hkd ok w hf hok
          have oz := ((zero_ok hz).choose_spec.choose_spec.2.2 ρ).2
          obtain ⟨w', h1, h2⟩ := map_write (es' := es ++ [(k, z, c)]) (clock' := c + 1) r t hl hg (fun e' he' => by
            rcases List.mem_append.1 he' with h3 | h3
            · exact hok e' h3
            · simp at h3; subst h3; exact ⟨ok, oz⟩)
          subst e
          have hpush : (⟨es.map (entry ρ)⟩ : Array MapEntry).push { key := conc ρ k, val := conc ρ z, born := c } = ⟨(es ++ [(k, z, c)]).map (entry ρ)⟩ := by
            simp [entry]
          refine ⟨ρ, w', fun oo ho => ?_, h2, by simp only [V.ok, oks, and_true]; exact oz⟩
          simp only [execOp, ho, Instr.mapEntry, Sem.run_bind, run_und hd, Result.andThen_ok, em, ek, hgo, hck, hfk, found, Option.map_none, run_zero hz ρ, hpush, h1, Sem.run_pure]
          simp [conc, concs, goInt]
        · exact absurd e hq
      · exact absurd e hq
    · exact absurd e hq
  · exact absurd e hq

theorem findBorn_ok {b : Nat} : ∀ {es : List (V × V × Nat)} {i0 i : Nat} {k v : V}, findBorn b es i0 = some (i, k, v) →
    i0 ≤ i ∧ es[i - i0]? = some (k, v, b) ∧ (es.map (entry ρ)).findIdx? (fun e => (e.born : Int) == (b : Int)) = some (i - i0) ∧ (es.map (entry ρ)).find? (fun e => e.born == b) = some (entry ρ (k, v, b))
  | [], i0, i, k, v, h => by cases h
  | x :: r, i0, i, k, v, h => by
    have h : (Bool.rec (findBorn b r (i0 + 1)) (some (i0, x.1, x.2.1)) (Nat.beq x.2.2 b) : Option (Nat × V × V)) = some (i, k, v) := h
    rcases brec_split h with ⟨hb, h⟩ | ⟨hb, h⟩
    · obtain ⟨h1, h2, h3, h4⟩ := findBorn_ok h
      have hne : ¬ (x.2.2 = b) := fun e => by rw [beq_dec, e] at hb; simp at hb
      refine ⟨by omega, by rw [show i - i0 = (i - (i0 + 1)) + 1 by omega, List.getElem?_cons_succ]; exact h2, ?_, ?_⟩
      · rw [List.map_cons, List.findIdx?_cons, h3]
        have : ((entry ρ x).born : Int) ≠ (b : Int) := by simp only [entry]; omega
        simp [this]; omega
      · rw [List.map_cons, List.find?_cons]
        have : ((entry ρ x).born == b) = false := by simp only [entry]; simpa using hne
        rw [this]; exact h4
    · cases h
      have := Nat.eq_of_beq_eq_true hb
      obtain ⟨x1, x2, x3⟩ := x
      simp only at this
      subst this
      exact ⟨Nat.le_refl _, by simp, by simp [List.findIdx?_cons, entry], by simp [entry]⟩

theorem xEntryStore_ok (fr : Fr P ρ tm a) (r : Rel P ρ h.get w) (t : Top ρ h) {ty : TypeId} {x y z : Operand} {q : OpR} (e : xEntryStore x y z (Env.of P) tm h = q) :
    XGives P ρ h w a (.entryStore ty x y z) q := by
  by_cases hq : q = .no
  · exact XGives.no' hq
  have hq : OpR.no ≠ q := Ne.symm hq
  unfold xEntryStore at e
  replace e := opdK_inv fr e hq
  obtain ⟨m, em, om, e⟩ := e
  replace e := opdK_inv fr e hq
  obtain ⟨k, ek, ok, e⟩ := e
  replace e := opdK_inv fr e hq
  obtain ⟨v, ev, ov, e⟩ := e
  split at e
  · rename_i id kk b
    split at e
    · rename_i es c hg
      simp only [V.ok] at om
      obtain ⟨loc, hl⟩ := om
      have hat : ρ.at id = loc := by simp [Ren.at, hl]
      simp only [conc, hat] at em ek
      obtain ⟨hgo, hok⟩ := map_read r hl hg
      split at e
      · rename_i i k0 v0 hf
        rw [putK_eq] at e
        obtain ⟨_, hi, hidx, _⟩ := findBorn_ok (ρ := ρ) hf
        rw [Nat.sub_zero] at hi hidx
        have ok0 := (hok _ (List.mem_of_getElem? hi)).1
        obtain ⟨w', h1, h2⟩ := map_write (es' := setNth es i (k0, v, b)) (clock' := c) r t hl hg (fun e' he' => by
          rcases setNth_mem he' with h3 | h3
          · exact hok e' h3
          · subst h3; exact ⟨ok0, ov⟩)
        subst e
        have hmod := modify_set (ρ := ρ) (f := fun e => { e with val := conc ρ v }) (e' := (k0, v, b)) hi rfl
        have hidx' : (⟨es.map (entry ρ)⟩ : Array MapEntry).findIdx? (fun e => (e.born : Int) == (b : Int)) = some i := by
          rw [← List.findIdx?_toArray] at hidx
          exact hidx
        refine ⟨ρ, w', fun oo ho => ?_, h2⟩
        simp only [execOp, ho, Instr.entryStore, Sem.run_bind, Result.andThen_ok, em, ek, ev, hgo, asInt, asIntOf, Int.ofNat_eq_natCast, hidx', hmod, h1, Sem.run_pure]
      · exact absurd e hq
    · exact absurd e hq
  · exact absurd e hq
end
end Go.Mx

namespace Go.Mx

section
variable {P : Program} {ρ : Ren} {tm : T V} {a : Act} {h : H} {w : World}

/-- a block that is made -/
theorem made (r : Rel P ρ h.get w) (t : Top ρ h) {o : O} {x : Obj} {ext : Nat} (ho : ∀ ρ' : Ren, ρ.le ρ' → ORel P ρ' ⟨w.heap.size, 0, ext⟩ (World.push w x) o) :
    Ext P ρ h w (ρ.add h.next ⟨w.heap.size, 0, ext⟩) (h.putNew o) (World.push w x) :=
  Ext.push r t (ho _ (Ren.add_le (t.dom _ (Nat.le_refl _))))

theorem xRange_ok (fr : Fr P ρ tm a) (r : Rel P ρ h.get w) (t : Top ρ h) {ty : TypeId} {x : Operand} {q : OpR} (e : xRange ty x (Env.of P) tm h = q) :
    XGives P ρ h w a (.range ty x) q := by
  by_cases hq : q = .no
  · exact XGives.no' hq
  have hq : OpR.no ≠ q := Ne.symm hq
  unfold xRange at e
  replace e := opdK_inv fr e hq
  obtain ⟨m, em, om, e⟩ := e
  have hle := Ren.add_le (ρ := ρ) (loc := ⟨w.heap.size, 0, 0⟩) (t.dom _ (Nat.le_refl _))
  have okp : (V.ptr h.next 0).ok (ρ.add h.next ⟨w.heap.size, 0, 0⟩) := by simp only [V.ok]; exact ⟨_, Ren.add_self⟩
  split at e
  · rename_i l hd
    rw [newK_eq] at e
    subst e
    simp only [conc] at em
    have hE := made (ext := 0) r t (o := .siter l 0) (x := .stringIter ⟨l.toArray⟩ 0) (fun ρ' _ => ⟨push_new, rfl⟩)
    exact ⟨_, _, fun oo ho => by simp [execOp, ho, Instr.range, run_und hd, em, conc, Ren.at, Ren.add_self, push_eq], hE, okp⟩
  · rename_i k e' hd
    rw [newK_eq] at e
    subst e
    simp only [conc] at em
    have hE := made (ext := 0) r t (o := .miter none 0 [] 0) (x := .mapIter none 0 #[] 0) (fun ρ' _ => ⟨rfl, push_new⟩)
    exact ⟨_, _, fun oo ho => by simp [execOp, ho, Instr.range, run_und hd, em, conc, Ren.at, Ren.add_self, push_eq], hE, okp⟩
  · rename_i id k e' hd
    split at e
    · rename_i es c hg
      rw [newK_eq] at e
      subst e
      simp only [V.ok] at om
      obtain ⟨loc, hl⟩ := om
      have hat : ρ.at id = loc := by simp [Ren.at, hl]
      simp only [conc, hat] at em
      obtain ⟨hgo, hok⟩ := map_read r hl hg
      have hE := made (ext := 0) r t (o := .miter (some id) c [] c) (x := .mapIter (some loc.blk) c #[] c) (fun ρ' hl' => ⟨rfl, loc, hl' _ _ hl, push_new⟩)
      exact ⟨_, _, fun oo ho => by simp [execOp, ho, Instr.range, run_und hd, em, hgo, conc, Ren.at, Ren.add_self, push_eq], hE, okp⟩
    · exact absurd e hq
  · exact absurd e hq

theorem decode_low {s : List UInt8} {pos : Nat} {b : UInt8} (hb : s[pos]? = some b) (hlow : b.toNat < 128) : Utf8.decode ⟨s.toArray⟩ pos = (b.toNat, 1) := by
  have hlt : pos < s.length := by
    rcases Nat.lt_or_ge pos s.length with h1 | h1
    · exact h1
    · rw [List.getElem?_eq_none h1] at hb; cases hb
  have hg : (⟨s.toArray⟩ : ByteArray).get! (pos + 0) = b := by
    show s.toArray[pos + 0]! = b
    rw [Nat.add_zero, Array.getElem!_eq_getD, Array.getD_eq_getD_getElem?]
    simp [hb]
  unfold Utf8.decode
  simp only [hg]
  rw [if_pos (by simpa using hlow)]

theorem set_write {id : Nat} {loc : Loc} {o o' : O} {x y : Obj} (r : Rel P ρ h.get w) (t : Top ρ h) (hl : ρ id = some loc) (hg : h.get id = some o) (hlive : o.live = true) (hx : w.heap[loc.blk]? = some x) (hnc : ∀ a b c, x ≠ .cells a b c)
    (ho : ∀ w' : World, w'.heap[loc.blk]? = some y → ORel P ρ loc w' o') : ∃ w', (setObj loc.blk y).run P w = .ok () w' ∧ Ext P ρ h w ρ (h.put id o') w' := by
  have hlt := (r.obj id loc hl).1
  refine ⟨{ w with heap := w.heap.setIfInBounds loc.blk y }, ?_, Ext.write r t hl hg hlive (by simp) (fun b hb => by simp [Array.getElem?_setIfInBounds, Ne.symm hb]) (ho _ (by simp [hlt])) rfl rfl⟩
  simp only [setObj, Sem.run, hx]

/-- the entries that an iterator may come to next -/
theorem left_ok {id m since c : Nat} {seen : List Nat} {left : List (V × V × Nat)} (r : Rel P ρ h.get w) (e : leftOf h.get id = some (m, since, seen, c, left)) {loc : Loc} (hl : ρ id = some loc) :
    ∃ es lm, h.get id = some (.miter (some m) since seen c) ∧ h.get m = some (.map es c) ∧ ρ m = some lm ∧ since = c ∧ left = es.filter (fun e => !seen.contains e.2.2) ∧ (∀ e ∈ es, e.2.2 < c) ∧
      w.heap[loc.blk]? = some (.mapIter (some lm.blk) since ⟨seen⟩ c) ∧ loc.sh = 0 := by
  unfold leftOf at e
  split at e
  · rename_i m' since' seen' last hg
    split at e
    · rename_i es c' hgm
      replace e := brec_inv e nofun
      obtain ⟨hb, e⟩ := e
      simp only [Bool.and_eq_true] at hb
      have h1 := Nat.eq_of_beq_eq_true hb.1.1
      have h2 := Nat.eq_of_beq_eq_true hb.1.2
      have h3 : ∀ e ∈ es, e.2.2 < c' := fun e he => Nat.le_of_ble_eq_true (List.all_eq_true.1 hb.2 e he)
      cases e
      subst h1
      have hrel := (r.obj id loc hl).2 _ hg
      obtain ⟨hsh, lm, hlm, hw⟩ := hrel
      exact ⟨es, lm, hg, hgm, hlm, h2.symm, rfl, h3, hw, hsh⟩
    · cases e
  · cases e

theorem xPanic_ok (fr : Fr P ρ tm a) {x : Operand} {q : OpR} (e : xPanic x (Env.of P) tm h = q) : XGives P ρ h w a (.panic x) q := by
  by_cases hq : q = .no
  · exact XGives.no' hq
  have hq : OpR.no ≠ q := Ne.symm hq
  unfold xPanic at e
  replace e := opdK_inv fr e hq
  obtain ⟨m, em, om, e⟩ := e
  split at e
  · subst e
    refine ⟨rfl, fun oo ho => ?_, om⟩
    simp only [conc] at em ⊢
    simp [execOp, ho, Instr.panic, em]
  · exact absurd e hq

theorem xSliceData_ok (fr : Fr P ρ tm a) (r : Rel P ρ h.get w) (t : Top ρ h) {c : Call} {q : OpR} (hb : c.callee = .builtin .unsafeSliceData) (e : xSliceData c.args (Env.of P) tm h = q) : XGives P ρ h w a (.call c) q := by
  by_cases hq : q = .no
  · exact XGives.no' hq
  have hq : OpR.no ≠ q := Ne.symm hq
  unfold xSliceData at e
  replace e := opdsK_inv fr e hq
  obtain ⟨l, el, ol, e⟩ := e
  have hargs : c.args.map a.eval = ⟨concs ρ l⟩ := by
    apply Array.ext'
    rw [Array.toList_map, el]
  have run : ∀ (v x : V), l = [x] → (∀ (ts : Array TypeId) (ty : TypeId), (Builtin.unsafeSliceData_ ts ty #[conc ρ x]).run P w = .ok (conc ρ v) w) → ∀ oo : Oper, oo.op = .call c → (execOp a.eval oo).run P w = .ok (.value (conc ρ v)) w := by
    intro v x hx hv oo ho
    subst hx
    have hargs : c.args.map a.eval = #[conc ρ x] := hargs
    simp [execOp, ho, resolve, hb, invoke, builtin, hargs, hv]
  split at e
  · subst e
    exact ⟨ρ, w, run .nptr .nslc rfl (fun ts ty => Go.Lib.run_unsafeSliceData_nil w ts ty 0 0), .refl r t, by simp [V.ok]⟩
  · rename_i id off len lo
    simp only [oks, V.ok, capOk, and_true] at ol
    obtain ⟨loc, hl, hcap⟩ := ol
    have hat : ρ.at id = loc := by simp [Ren.at, hl]
    rcases brec_split e with ⟨hb2, e⟩ | ⟨hb2, e⟩
    · subst e
      have hne : ¬ len = 0 := fun h0 => by subst h0; cases hb2
      have hc : loc.ext - lo ≠ 0 := by omega
      refine ⟨ρ, w, run (.ptr id off) (.slc id off len (.open_ lo)) rfl (fun ts ty => ?_), .refl r t, by simp only [V.ok]; exact ⟨loc, hl⟩⟩
      simp only [conc, hat]
      exact Go.Lib.run_unsafeSliceData_row w ts ty _ _ _ hc
    · exact absurd e hq
  · rename_i id off len cc
    simp only [oks, V.ok, capOk, and_true] at ol
    obtain ⟨loc, hl, hcap⟩ := ol
    have hat : ρ.at id = loc := by simp [Ren.at, hl]
    rcases brec_split e with ⟨hb2, e⟩ | ⟨hb2, e⟩
    · subst e
      have hc : cc ≠ 0 := fun h0 => by subst h0; cases hb2
      refine ⟨ρ, w, run (.ptr id off) (.slc id off len (.known cc)) rfl (fun ts ty => ?_), .refl r t, by simp only [V.ok]; exact ⟨loc, hl⟩⟩
      simp only [conc, hat]
      exact Go.Lib.run_unsafeSliceData_row w ts ty _ _ _ hc
    · exact absurd e hq
  · exact absurd e hq
end
end Go.Mx

namespace Go.Mx

section
variable {P : Program} {ρ : Ren} {tm : T V} {a : Act} {h : H} {w : World}

theorem filter_arr {ρ : Ren} (es : List (V × V × Nat)) (p : Nat → Bool) : (⟨es.map (entry ρ)⟩ : Array MapEntry).filter (fun e => p e.born) = ⟨(es.filter fun e => p e.2.2).map (entry ρ)⟩ := by
  apply Array.ext'
  rw [Array.toList_filter]
  simp only
  induction es with
  | nil => rfl
  | cons x r ih =>
    have hb : (entry ρ x).born = x.2.2 := rfl
    simp only [List.map_cons, List.filter_cons, hb]
    cases p x.2.2 <;> simp [ih]

theorem xNext_map {it : Operand} {id m c : Nat} {seen : List Nat} {es : List (V × V × Nat)} {loc lm : Loc} {k k' : Value → Sem Value} (hgo : (getObj lm.blk).run P w = .ok (.map ⟨es.map (entry ρ)⟩ c) w)
    (hlt : ∀ e ∈ es, e.2.2 < c) (hi : (getObj loc.blk).run P w = .ok (.mapIter (some lm.blk) c ⟨seen⟩ c) w) (ty : TypeId) :
    (es.filter (fun e => !seen.contains e.2.2) = [] → (Instr.next (.pointer (some ⟨loc.blk, 0, none⟩)) false ty).run P w = .ok (.tuple #[.bool false]) w) ∧
    (∀ e, es.filter (fun e => !seen.contains e.2.2) = [e] → ∀ w', (setObj loc.blk (.mapIter (some lm.blk) c (⟨seen ++ [e.2.2]⟩) c)).run P w = .ok () w' →
      (Instr.next (.pointer (some ⟨loc.blk, 0, none⟩)) false ty).run P w = .ok (.tuple #[.bool true, conc ρ e.1, conc ρ e.2.1]) w') := by
  have hnot : (!((⟨seen⟩ : Array Nat).isEmpty) && !((⟨es.map (entry ρ)⟩ : Array MapEntry).isEmpty) && (⟨es.map (entry ρ)⟩ : Array MapEntry).all (fun e => decide (e.born ≥ c))) = false := by
    cases es with
    | nil => simp
    | cons x r =>
      have := hlt x (by simp)
      have hb : (entry ρ x).born = x.2.2 := rfl
      have h0 : ¬ (c ≤ x.2.2) := by omega
      simp [hb, h0]
  have hleft : (⟨es.map (entry ρ)⟩ : Array MapEntry).filter (fun e => !(⟨seen⟩ : Array Nat).contains e.born) = ⟨(es.filter fun e => !seen.contains e.2.2).map (entry ρ)⟩ := by
    have := filter_arr (ρ := ρ) es (fun b => !seen.contains b)
    simpa using this
  have hold : ∀ l : List (V × V × Nat), (∀ e ∈ l, e.2.2 < c) → (⟨l.map (entry ρ)⟩ : Array MapEntry).filter (fun e => decide (e.born < c)) = ⟨l.map (entry ρ)⟩ ∧ (⟨l.map (entry ρ)⟩ : Array MapEntry).filter (fun e => decide (e.born ≥ c)) = #[] := fun l hl => by
    have h1 := filter_arr (ρ := ρ) l (fun b => decide (b < c))
    have h2 := filter_arr (ρ := ρ) l (fun b => decide (b ≥ c))
    rw [h1, h2, List.filter_eq_self.2 (fun e he => by simpa using hl e he), List.filter_eq_nil_iff.2 (fun e he => by have := hl e he; simp; omega)]
    exact ⟨rfl, rfl⟩
  have hmem : ∀ e ∈ es.filter (fun e => !seen.contains e.2.2), e.2.2 < c := fun e he => hlt e (List.mem_filter.1 he).1
  have ho := hold _ hmem
  refine ⟨fun h0 => ?_, fun e h0 w' hset => ?_⟩
  · rw [h0] at ho hleft
    simp only [Instr.next, Sem.run_bind, hi, hgo, Result.andThen_ok, hnot, hleft, ho.1, ho.2]
    simp [Question.forced]
  · rw [h0] at ho hleft
    simp only [Instr.next, Sem.run_bind, hi, hgo, Result.andThen_ok, hnot, hleft, ho.1, ho.2]
    have hs2 : (⟨seen⟩ : Array Nat).push e.2.2 = ⟨seen ++ [e.2.2]⟩ := by simp
    simp [Question.forced, entry, hset]

theorem xNext_ok (fr : Fr P ρ tm a) (r : Rel P ρ h.get w) (t : Top ρ h) {x : Operand} {s : Bool} {q : OpR} (e : xNext x s (Env.of P) tm h = q) :
    XGives P ρ h w a (.next x s) q := by
  by_cases hq : q = .no
  · exact XGives.no' hq
  have hq : OpR.no ≠ q := Ne.symm hq
  unfold xNext at e
  replace e := opdK_inv fr e hq
  obtain ⟨m, em, om, e⟩ := e
  split at e
  · rename_i id off
    replace e := brec_inv e hq
    obtain ⟨hoff, e⟩ := e
    have hoff := Nat.eq_of_beq_eq_true hoff
    subst hoff
    simp only [V.ok] at om
    obtain ⟨loc, hl⟩ := om
    have hat : ρ.at id = loc := by simp [Ren.at, hl]
    simp only [conc, hat] at em
    split at e
    · rename_i l pos hg
      obtain ⟨hw, hsh⟩ := (r.obj id loc hl).2 _ hg
      rw [hsh] at em
      have hs : (⟨l.toArray⟩ : ByteArray).size = l.length := by show l.toArray.size = _; simp
      have hgo : (getObj loc.blk).run P w = .ok (.stringIter ⟨l.toArray⟩ pos) w := by simp [getObj, Sem.run, hw]
      replace e := brec_split e
      rcases e with ⟨hb, e⟩ | ⟨hb, e⟩
      · subst e
        have hge : ¬ (pos < l.length) := fun hh => by rw [Nat.ble_eq_true_of_le hh] at hb; cases hb
        refine ⟨ρ, w, fun oo ho => ?_, .refl r t, by simp [V.ok, oks]⟩
        simp [execOp, ho, em, Instr.next, hgo, hs, hge, conc, concs]
      · have hlt : pos < l.length := Nat.le_of_ble_eq_true hb
        split at e
        · rename_i b hbb
          replace e := brec_inv e hq
          obtain ⟨hlow, e⟩ := e
          rw [natF_eq, putK_eq] at e
          subst e
          have hlow : b.toNat < 128 := Nat.le_of_ble_eq_true hlow
          obtain ⟨w', h1, h2⟩ := set_write (o' := .siter l (pos + 1)) (y := .stringIter ⟨l.toArray⟩ (pos + 1)) r t hl hg rfl hw (by simp) (fun w' hw' => ⟨hw', hsh⟩)
          refine ⟨ρ, w', fun oo ho => ?_, h2, by simp [V.ok, oks]⟩
          simp [execOp, ho, em, Instr.next, hgo, hs, hlt, decode_low hbb hlow, h1, conc, concs, goInt]
        · exact absurd e hq
    · rename_i since seen last hg
      subst e
      obtain ⟨hsh, hw⟩ := (r.obj id loc hl).2 _ hg
      rw [hsh] at em
      have hgo : (getObj loc.blk).run P w = .ok (.mapIter none since ⟨seen⟩ last) w := by simp [getObj, Sem.run, hw]
      refine ⟨ρ, w, fun oo ho => ?_, .refl r t, by simp [V.ok, oks]⟩
      simp [execOp, ho, em, Instr.next, hgo, conc, concs]
    · split at e
      · rename_i mm since seen c left hlf
        obtain ⟨es, lm, hg, hgm, hlm, hsc, hleft, hlt, hw, hsh⟩ := left_ok r hlf hl
        subst hsc
        rw [hsh] at em
        obtain ⟨hgo, hok⟩ := map_read r hlm hgm
        have hi : (getObj loc.blk).run P w = .ok (.mapIter (some lm.blk) since ⟨seen⟩ since) w := by simp [getObj, Sem.run, hw]
        have hn := fun ty => xNext_map (P := P) (ρ := ρ) (it := x) (id := id) (m := mm) (k := pure) (k' := pure) hgo hlt hi ty
        rw [← hleft] at hn
        split at e
        · subst e
          refine ⟨ρ, w, fun oo ho => ?_, .refl r t, by simp [V.ok, oks]⟩
          simp [execOp, ho, em, (hn oo.type).1 rfl, conc, concs]
        · rename_i en
          rw [putK_eq] at e
          subst e
          obtain ⟨w', h1, h2⟩ := set_write (o' := .miter (some mm) since (seen ++ [en.2.2]) since) (y := .mapIter (some lm.blk) since ⟨seen ++ [en.2.2]⟩ since) r t hl hg rfl hw (by simp) (fun w' hw' => ⟨hsh, lm, hlm, hw'⟩)
          have hen : en ∈ es := (List.mem_filter.1 (show en ∈ es.filter _ by rw [← hleft]; simp)).1
          refine ⟨ρ, w', fun oo ho => ?_, h2, by simp only [V.ok, oks, and_true, true_and]; exact hok en hen⟩
          simp [execOp, ho, em, (hn oo.type).2 en rfl w' h1, conc, concs]
        · exact absurd e hq
      · exact absurd e hq
    · exact absurd e hq
  · exact absurd e hq

theorem xEntry_ok (fr : Fr P ρ tm a) (r : Rel P ρ h.get w) (t : Top ρ h) {x : Operand} {q : OpR} (e : xEntry x (Env.of P) tm h = q) :
    XGives P ρ h w a (.entry x) q := by
  by_cases hq : q = .no
  · exact XGives.no' hq
  have hq : OpR.no ≠ q := Ne.symm hq
  unfold xEntry at e
  replace e := opdK_inv fr e hq
  obtain ⟨m, em, om, e⟩ := e
  split at e
  · rename_i id off
    replace e := brec_inv e hq
    obtain ⟨hoff, e⟩ := e
    have hoff := Nat.eq_of_beq_eq_true hoff
    subst hoff
    simp only [V.ok] at om
    obtain ⟨loc, hl⟩ := om
    have hat : ρ.at id = loc := by simp [Ren.at, hl]
    simp only [conc, hat] at em
    split at e
    · rename_i mm since seen last hg
      obtain ⟨hsh, lm, hlm, hw⟩ := (r.obj id loc hl).2 _ hg
      rw [hsh] at em
      split at e
      · rename_i b es c hlast hgm
        replace e := brec_inv e hq
        obtain ⟨hc, e⟩ := e
        have hc := Nat.eq_of_beq_eq_true hc
        subst hc
        obtain ⟨hgo, hok⟩ := map_read r hlm hgm
        split at e
        · rename_i i k v hf
          subst e
          obtain ⟨_, hi, _, hfind⟩ := findBorn_ok (ρ := ρ) hf
          have hm := hok _ (List.mem_of_getElem? hi)
          have hgi : (getObj loc.blk).run P w = .ok (.mapIter (some lm.blk) since ⟨seen⟩ c) w := by simp [getObj, Sem.run, hw]
          have hback : (⟨seen⟩ : Array Nat).back? = some b := by simpa using hlast
          have hfind' : (⟨es.map (entry ρ)⟩ : Array MapEntry).find? (fun e => e.born == b) = some (entry ρ (k, v, b)) := by
            rw [← List.find?_toArray] at hfind
            exact hfind
          refine ⟨ρ, w, fun oo ho => ?_, .refl r t, by simp only [V.ok, oks, and_true]; exact hm⟩
          simp [execOp, ho, em, Instr.entry, hgi, hback, hgo, hfind', conc, concs, entry]
        · exact absurd e hq
      · exact absurd e hq
    · exact absurd e hq
  · exact absurd e hq
end
end Go.Mx

namespace Go.Mx

section
variable {P : Program} {ρ : Ren} {tm : T V} {a : Act} {h : H} {w : World}

/-- no function has a meaning of its own -/
def Plain (P : Program) : Prop := ∀ (f : Nat) (fn : Func), P.funcs[f]? = some fn → (fn.name == "runtime.NumGoroutine") = false

theorem noEscape_find (fn : Func) (hn : fn.name = "internal/abi.NoEscape") (ho : fn.origin = "") : Extern.findNext fn = none ∧ Extern.find fn = some Extern.AbiNoEscape.same := by
  constructor
  · unfold Extern.findNext
    rw [hn, ho]
    kernel_rfl
  · unfold Extern.find
    rw [hn, ho]
    kernel_rfl

theorem xCall_ok (hP : Plain P) (fr : Fr P ρ tm a) (r : Rel P ρ h.get w) (t : Top ρ h) {c : Call} {f : Operand} {q : OpR} (hc : c.callee = .value f) (e : xCall f c.args (Env.of P) tm h = q) : XGives P ρ h w a (.call c) q := by
  by_cases hq : q = .no
  · exact XGives.no' hq
  have hq : OpR.no ≠ q := Ne.symm hq
  unfold xCall at e
  replace e := opdK_inv fr e hq
  obtain ⟨u, eu, ou, e⟩ := e
  replace e := opdsK_inv fr e hq
  obtain ⟨l, el, ol, e⟩ := e
  have hargs : c.args.map a.eval = ⟨concs ρ l⟩ := by
    apply Array.ext'
    rw [Array.toList_map, el]
  split at e
  · rename_i g first caps
    simp only [V.ok] at ou
    simp only [conc] at eu
    have hall : oks ρ (first ++ (l ++ caps)) := oks_iff.2 fun v hv => by
      rcases List.mem_append.1 hv with h1 | h1
      · exact oks_iff.1 ou.1 v h1
      · rcases List.mem_append.1 h1 with h1 | h1
        · exact oks_iff.1 ol v h1
        · exact oks_iff.1 ou.2 v h1
    have hcall : ∀ oo : Oper, oo.op = .call c → (execOp a.eval oo).run P w = (callFunc g ⟨concs ρ (first ++ (l ++ caps))⟩).run P w := fun oo ho => by
      have hcat : (⟨concs ρ first⟩ : Array Value) ++ ⟨concs ρ l⟩ ++ ⟨concs ρ caps⟩ = ⟨concs ρ (first ++ (l ++ caps))⟩ := by
        apply Array.ext'
        simp [concs_map]
      simp only [execOp, ho, resolve, hc, Deferred.ofValue, eu, hargs, Sem.run_bind, Sem.run_pure, Result.andThen_ok, invoke, hcat]
    unfold xEnter at e
    replace e := orec_inv e hq
    obtain ⟨fn, hf, e⟩ := e
    have hfn := funcs_get hf
    have hng := hP g fn hfn
    cases hb : fn.body with
    | some code =>
      rw [hb] at e
      have e : OpR.enter g (first ++ (l ++ caps)) h = q := e
      subst e
      refine ⟨rfl, ⟨fn, code, hfn, hb⟩, fun oo ho => ?_, hall⟩
      rw [hcall oo ho]
      have hne : ¬ fn.name = "runtime.NumGoroutine" := by simpa using hng
      simp [callFunc, hfn, hne, hb]
    | none =>
      rw [hb] at e
      have e : xExtern fn h (first ++ (l ++ caps)) = q := e
      unfold xExtern at e
      split at e
      · rename_i x hx
        split at e
        · rename_i hn
          subst e
          obtain ⟨hfn1, hfn2⟩ := noEscape_find fn hn.1 hn.2
          rw [hx] at hall
          simp only [oks, and_true] at hall
          refine ⟨ρ, w, fun oo ho => ?_, .refl r t, hall⟩
          rw [hcall oo ho, hx]
          simp only [callFunc, Sem.run_bind, run_program, Result.andThen_ok, hfn, hng, hb, Option.isNone_none, if_true, Bool.false_eq_true, if_false, run_mark, hfn1, hfn2, Sem.run_pure]
          rfl
        · exact absurd e hq
      · exact absurd e hq
  · rename_i lp
    subst e
    simp only [conc] at eu
    refine ⟨rfl, fun oo ho => ?_, ol, ou⟩
    have hcat : (#[] : Array Value) ++ ⟨concs ρ l⟩ = ⟨concs ρ l⟩ := by simp
    simp only [execOp, ho, resolve, hc, Deferred.ofValue, eu, hargs, Sem.run_bind, Sem.run_pure, Result.andThen_ok, invoke, hcat]
  · exact absurd e hq

theorem callLen_ok (fr : Fr P ρ tm a) {c : Call} {t : TypeId} {x : Operand} (hb : c.callee = .builtin .len) (ha : c.args = #[x]) (ht : c.argTypes = #[t]) {g : G} {v : V} (h : rLen t x (Env.of P) tm g = some v) (ft : FootRel ρ g w (fObj x (Env.of P) tm)) :
    RGives P ρ a w (.call c) v ∧ v.ok ρ := by
  have hl := fun ty => rLen_ok fr h ft ty
  refine ⟨fun oo ho => ?_, (hl 0).2⟩
  simp [execOp, ho, resolve, hb, invoke, builtin, ha, ht, (hl oo.type).1]

theorem callMin_ok (fr : Fr P ρ tm a) {c : Call} {mx : Bool} (hb : c.callee = .builtin (if mx then .max else .min)) {v : V} (h : pMin mx c.args (Env.of P) tm = some v) : PGives P ρ a (.call c) v ∧ v.ok ρ := by
  have hl := pMin_ok fr h
  refine ⟨fun oo w ho => ?_, hl.2⟩
  have := hl.1 c.argTypes oo.type w
  cases mx with
  | true =>
    simp only [if_true] at this hb
    simp [execOp, ho, resolve, hb, invoke, builtin, this]
  | false =>
    simp only [Bool.false_eq_true, if_false] at this hb
    simp [execOp, ho, resolve, hb, invoke, builtin, this]
end
end Go.Mx

namespace Go.Mx

section
variable {P : Program} {ρ : Ren} {tm : T V} {a : Act} {h : H} {w : World}

theorem liesAt_at {e : TypeId} (hc : P.cellsOf e = 1) (count off n : Nat) (hn : off + n ≤ count) : liesAt P P.depth e count off e n = true := by
  have hd : P.depth = (2 * (P.types.size + Made.depth) + 1) + 1 := rfl
  rw [hd]
  simp only [liesAt, Bool.or_eq_true]
  left
  rw [hd]
  simp [rowAt, hc, hn, sameLayout, Nat.mod_one]

theorem conv_bytes (r : Rel P ρ h.get w) (t : Top ρ h) {s d e : TypeId} {l : List UInt8} {x : Operand} (hs : (Env.of P).und s = some .string) (hd : (Env.of P).und d = some (.slice e)) (he : (Env.of P).und e = some (.int .u8)) (hsz : (Env.of P).size e = some 1)
    (ex : a.eval x = conc ρ (.str l)) :
    XGives P ρ h w a (.convert s d x) (.val (.slc h.next 0 l.length (.open_ 0)) (h.putNew (.cells (mkCells (l.map fun b => .int .u8 (.ofNat b.toNat)) l.length) l.length e true false 0))) := by
  have hrun := run_bytes_of_string (P := P) w s d e ⟨l.toArray⟩ (und_ok hs) (und_ok hd) (und_ok he)
  have hsize : (⟨l.toArray⟩ : ByteArray).size = l.length := by show l.toArray.size = _; simp
  rw [hsize] at hrun
  have hge : l.length ≤ grownCap w l.length 0 e := Nat.le_add_right _ _
  generalize hcap : grownCap w l.length 0 e = cap at hrun hge
  obtain ⟨i, hi, hi1⟩ := size_ok hsz
  have hbs : (bytesRow ⟨l.toArray⟩ cap).size = cap := by simp [bytesRow, hsize]; omega
  have e1 := Ext.same (P := P) (w' := w.drew) r t rfl rfl rfl
  have hO : ORel P (ρ.add h.next ⟨w.drew.heap.size, 0, cap⟩) ⟨w.drew.heap.size, 0, cap⟩ (World.push w.drew (.cells (bytesRow ⟨l.toArray⟩ cap) e ((bytesRow ⟨l.toArray⟩ cap).size, (bytesRow ⟨l.toArray⟩ cap).size + 1)))
      (.cells (mkCells (l.map fun b => .int .u8 (.ofNat b.toNat)) l.length) l.length e true false 0) := by
    refine ⟨fun j v hj hv => ?_, fun _ => ⟨_, _, _, push_new, by show 0 + l.length ≤ _; rw [hbs]; omega, fun j _ hj => by
      have hj : 0 + j < (bytesRow ⟨l.toArray⟩ cap).size := hj
      show ¬ (_ ≤ 0 + j ∧ _)
      omega, nofun, fun _ => ⟨i, hi, by show _ = 0 + cap * i.size; rw [hbs, hi1]; omega⟩⟩⟩
    have hc : (l.map fun b => V.int .u8 (.ofNat b.toNat))[j]? = some v := T.get_ofL hv
    rw [List.getElem?_map] at hc
    cases hb : l[j]? with
    | none => rw [hb] at hc; cases hc
    | some b =>
      rw [hb] at hc
      cases hc
      refine ⟨?_, by simp [V.ok], rfl⟩
      rw [cell_of push_new]
      simp only [bytesRow, Nat.zero_add]
      rw [Array.getElem?_append_left (by simpa using hj)]
      simp [hb, conc]
  have e2 := Ext.push (P := P) (w := w.drew) (ext := cap) e1.rel t hO
  refine ⟨_, _, fun oo ho => ?_, e1.trans e2, by simp only [V.ok]; exact ⟨_, Ren.add_self, by simp only [capOk]; omega⟩⟩
  simp only [conc] at ex
  simp only [execOp, ho, ex, Sem.run_bind, hrun, Result.andThen_ok, conc, Ren.at, Ren.add_self, Option.getD_some]
  rfl
end
end Go.Mx

namespace Go.Mx

section
variable {P : Program} {ρ : Ren} {tm : T V} {a : Act} {h : H} {w : World}

theorem shape_of {b : Nat} {arr : Array Value} {el : TypeId} {f : Nat × Nat} (hh : w.heap[b]? = some (.cells arr el f)) : w.shape? b = some (el, arr.size) := by
  unfold World.shape?
  simp [hh]

theorem run_seenAt {b o : Nat} {sh : TypeId × Nat} (hh : w.shape? b = some sh) : (Conv.seenAt ⟨b, o, none⟩).run P w = .ok ⟨b, o, none⟩ w := by
  simp [Conv.seenAt, viewAt, hh]

theorem freeze_at {b o n : Nat} {arr : Array Value} {el : TypeId} {lo hi : Nat} (hh : w.heap[b]? = some (.cells arr el (lo, hi))) :
    (∃ f, (w.freeze ⟨b, o, none⟩ n).heap[b]? = some (.cells arr el f)) ∧ (w.freeze ⟨b, o, none⟩ n).heap.size = w.heap.size ∧ (∀ b', b' ≠ b → (w.freeze ⟨b, o, none⟩ n).heap[b']? = w.heap[b']?) ∧
    (w.freeze ⟨b, o, none⟩ n).os = w.os ∧ (w.freeze ⟨b, o, none⟩ n).output = w.output := by
  unfold World.freeze
  split
  · exact ⟨⟨_, hh⟩, rfl, fun _ _ => rfl, rfl, rfl⟩
  · refine ⟨⟨_, by simp [Array.getElem?_modify, hh]; rfl⟩, by simp, fun b' hb => by simp [Array.getElem?_modify, Ne.symm hb], rfl, rfl⟩

theorem xConvert_ok (fr : Fr P ρ tm a) (r : Rel P ρ h.get w) (t : Top ρ h) {s d : TypeId} {x : Operand} {q : OpR} (e : xConvert s d x (Env.of P) tm h = q) : XGives P ρ h w a (.convert s d x) q := by
  by_cases hq : q = .no
  · exact XGives.no' hq
  have hq : OpR.no ≠ q := Ne.symm hq
  unfold xConvert at e
  replace e := opdK_inv fr e hq
  obtain ⟨u, eu, ou, e⟩ := e
  split at e
  · rename_i el l hs hd
    split at e
    · rename_i he hsz
      rw [natF_eq, newK_eq] at e
      subst e
      exact conv_bytes r t hs hd he hsz eu
    · exact absurd e hq
  · rename_i e0 el id off n cap hs hd
    replace e := gcells_inv e hq
    obtain ⟨c, m, el', op, ro, fz, hg, e⟩ := e
    split at e
    · rename_i he
      replace e := brec_inv e hq
      obtain ⟨hb, e⟩ := e
      simp only [Bool.and_eq_true] at hb
      obtain ⟨hop, hro, hsd⟩ := hb
      have hop : op = false := by cases op <;> simp_all
      have hro : ro = false := by cases ro <;> simp_all
      have hsd := Nat.eq_of_beq_eq_true hsd
      subst hop; subst hro; subst hsd
      have hde := hd
      rw [hs] at hde
      cases hde
      rw [putK_eq] at e
      subst e
      obtain ⟨loc, o, cc, hl, hsl, _, _⟩ := slc_at ou
      have hO := (r.obj id loc hl).2 _ hg
      obtain ⟨hc, hs2⟩ := hO
      obtain ⟨arr, lo, hi, h1, h2, h3, h4, h5⟩ := hs2 rfl
      obtain ⟨hsh, hsz⟩ := h4 rfl
      obtain ⟨⟨f, f1⟩, f2, f3, f4, f5⟩ := freeze_at (w := w) (o := arr.size) (n := 1) h1
      have hO' : ORel P ρ loc (w.freeze ⟨loc.blk, arr.size, none⟩ 1) (.cells c m el' false false m) := by
        refine ⟨fun j v hj hv => ?_, fun _ => ⟨arr, f.1, f.2, f1, h2, fun j hj hj' => by rw [hsh] at hj'; omega, fun _ => ⟨hsh, hsz⟩, nofun⟩⟩
        have := hc j v hj hv
        refine ⟨?_, this.2⟩
        rw [cell_of f1, ← cell_of h1]
        exact this.1
      have hE := Ext.write r t hl hg rfl f2 f3 hO' f4 f5
      refine ⟨ρ, _, fun oo ho => ?_, hE, ou⟩
      simp only [execOp, ho, eu, hsl]
      simp [convert, run_und hs, run_und hd, run_und he, markStringish, shape_of h1]
    · exact absurd e hq
  · rename_i t0 id off hs hd
    replace e := gcells_inv e hq
    obtain ⟨c, m, el', op, ro, fz, hg, e⟩ := e
    split at e
    · rename_i k hk
      replace e := brec_inv e hq
      obtain ⟨hb, e⟩ := e
      simp only [Bool.and_eq_true] at hb
      obtain ⟨hop, hro, hlt⟩ := hb
      have hop : op = false := by cases op <;> simp_all
      have hro : ro = false := by cases ro <;> simp_all
      subst hop; subst hro
      have hlt : off < m := Nat.le_of_ble_eq_true hlt
      subst e
      have ou' := ou
      simp only [V.ok] at ou
      obtain ⟨loc, hl⟩ := ou
      have hat : ρ.at id = loc := by simp [Ren.at, hl]
      obtain ⟨arr, lo, hi, h1, h2, h3, h4, h5⟩ := ((r.obj id loc hl).2 _ hg).2 rfl
      obtain ⟨hsh, hsz⟩ := h4 rfl
      simp only [conc, hat] at eu
      refine ⟨ρ, w, fun oo ho => ?_, .refl r t, ou'⟩
      have hge : ¬ (arr.size ≤ loc.sh + off) := by omega
      simp [execOp, ho, eu, convert, run_und hs, run_und hd, Conv.unsafePointer, run_seenAt (shape_of h1), shape_of h1, cellsIn, run_size hk, hge, conc, hat]
    · exact absurd e hq
  · rename_i u0 id off hs hd
    replace e := gcells_inv e hq
    obtain ⟨c, m, el', op, ro, fz, hg, e⟩ := e
    replace e := orec_inv e hq
    obtain ⟨k, hk, e⟩ := e
    replace e := brec_inv e hq
    obtain ⟨hb, e⟩ := e
    simp only [Bool.and_eq_true] at hb
    obtain ⟨hop, hro, hlies⟩ := hb
    have hop : op = false := by cases op <;> simp_all
    have hro : ro = false := by cases ro <;> simp_all
    subst hop; subst hro
    subst e
    have ou' := ou
    simp only [V.ok] at ou
    obtain ⟨loc, hl⟩ := ou
    have hat : ρ.at id = loc := by simp [Ren.at, hl]
    obtain ⟨arr, lo, hi, h1, h2, h3, h4, h5⟩ := ((r.obj id loc hl).2 _ hg).2 rfl
    obtain ⟨hsh, hsz⟩ := h4 rfl
    simp only [conc, hat] at eu
    have hlies : liesAt P P.depth el' (arr.size / P.cellsOf el') (loc.sh + off) u0 1 = true := by
      rw [hsh, hsz, Nat.zero_add]; exact hlies
    refine ⟨ρ, w, fun oo ho => ?_, .refl r t, ou'⟩
    simp [execOp, ho, eu, convert, run_und hs, run_und hd, Conv.unsafePointer, run_seenAt (shape_of h1), shape_of h1, run_size hk, variablesAt, hlies, conc, hat]
  · exact absurd e hq
end
end Go.Mx

namespace Go.Mx

section
variable {P : Program} {ρ : Ren} {tm : T V} {a : Act} {h : H} {w : World}

/-- the arm of two values -/
theorem us_match {motive : Array Value → Sort _} (p : Option Addr) (v : Value) (h1 : (p : Option Addr) → (len_ : Value) → motive #[Value.pointer p, len_]) (h2 : (x : Array Value) → motive x) : Builtin.unsafeString_.match_3 motive #[.pointer p, v] h1 h2 = h1 p v := rfl

theorem run_string_nil (tys : Array TypeId) (ty t0 : TypeId) (ht : tys[0]? = some t0) (k : IntKind) (p : Option Addr) (w : World) : (Builtin.unsafeString_ tys ty #[.pointer p, .int k 0]).run P w = .ok (.string .empty) w := by
  have hmax : IntKind.i64.max = 9223372036854775807 := rfl
  unfold Builtin.unsafeString_
  split
  · rw [us_match]
    cases p <;> simp [asInt, asIntOf, hmax]
  · rename_i x hx
    simp [ht] at hx

theorem run_loadB : ∀ (ns : List Nat) (b o : Nat) (acc : ByteArray), (∀ (j n : Nat), ns[j]? = some n → w.cell? ⟨b, o + j, none⟩ = some (.int .u8 (n : Int))) →
    (loadBytes ⟨b, o, none⟩ acc ns.length).run P w = .ok ⟨acc.data ++ (ns.map UInt8.ofNat).toArray⟩ w
  | [], b, o, acc, _ => by simp [loadBytes]
  | n :: ns, b, o, acc, hc => by
    have h0 : w.cell? ⟨b, o, none⟩ = some (.int .u8 n) := hc 0 n rfl
    have ih := run_loadB ns b (o + 1) (acc.push (UInt8.ofNat n)) (fun j m hj => by
      have := hc (j + 1) m (by simpa using hj)
      rwa [show o + (j + 1) = o + 1 + j by omega] at this)
    have hx : ((n : Int).toNat).toUInt8 = UInt8.ofNat n := by simp [Nat.toUInt8]
    simp only [List.length_cons, loadBytes, Sem.run_bind, run_load, h0, Result.andThen_ok, addr_add, hx]
    rw [ih]
    congr 1
    apply ByteArray.ext
    simp [ByteArray.push]

theorem run_string_row (tys : Array TypeId) (ty t0 e : TypeId) (ht : tys[0]? = some t0) (hp : P.underlying t0 = some (.pointer e)) (hc : P.cellsOf e = 1) (k : IntKind) (b o cells : Nat) (hsh : w.shape? b = some (e, cells)) (ns : List Nat) (h0 : ns.length ≠ 0)
    (hn : o + ns.length ≤ cells) (h63 : ns.length ≤ 9223372036854775807) (hcell : ∀ (j n : Nat), ns[j]? = some n → w.cell? ⟨b, o + j, none⟩ = some (.int .u8 (n : Int))) :
    (Builtin.unsafeString_ tys ty #[.pointer (some ⟨b, o, none⟩), .int k ns.length]).run P w = .ok (.string ⟨(ns.map UInt8.ofNat).toArray⟩) (w.freeze ⟨b, o, none⟩ ns.length) := by
  have hlb := run_loadB (P := P) ns b o .empty hcell
  have hemp : (⟨ByteArray.empty.data ++ (ns.map UInt8.ofNat).toArray⟩ : ByteArray) = ⟨(ns.map UInt8.ofNat).toArray⟩ := by
    apply ByteArray.ext
    show #[] ++ _ = _
    simp
  rw [hemp] at hlb
  have hlies := liesAt_at (P := P) hc (cells / P.cellsOf e) o ns.length (by rw [hc]; simpa using hn)
  have h63' : ¬ (9223372036854775807 : Int) < (ns.length : Int) := by omega
  have hmax : IntKind.i64.max = 9223372036854775807 := rfl
  have hneg : ¬ (ns.length : Int) < 0 := by omega
  have h0' : ¬ ns = [] := fun e => h0 (by rw [e]; rfl)
  unfold Builtin.unsafeString_
  split
  · rename_i q n hn0
    rw [ht] at hn0
    cases hn0
    rw [us_match]
    simp [asInt, asIntOf, hmax, h63', hneg, h0', variablesAt, hsh, elemOf, run_underlying hp, hlies, hlb]
  · rename_i x hx
    simp [ht] at hx

theorem xString_ok (fr : Fr P ρ tm a) (r : Rel P ρ h.get w) (t : Top ρ h) {c : Call} {q : OpR} (hb : c.callee = .builtin .unsafeString) (e : xString c.argTypes c.args (Env.of P) tm h = q) : XGives P ρ h w a (.call c) q := by
  by_cases hq : q = .no
  · exact XGives.no' hq
  have hq : OpR.no ≠ q := Ne.symm hq
  unfold xString at e
  replace e := opdsK_inv fr e hq
  obtain ⟨l, el, ol, e⟩ := e
  have run : ∀ (v : V) (x : V) (k : IntKind) (n : Nat) (w' : World), l = [x, .int k (.ofNat n)] → (∀ (ty : TypeId), (Builtin.unsafeString_ c.argTypes ty #[conc ρ x, .int k n]).run P w = .ok (conc ρ v) w') → ∀ oo : Oper, oo.op = .call c → (execOp a.eval oo).run P w = .ok (.value (conc ρ v)) w' := by
    intro v x k n w' hx hv oo ho
    subst hx
    have hargs : c.args.map a.eval = #[conc ρ x, .int k n] := by
      apply Array.ext'
      rw [Array.toList_map, el]; rfl
    simp [execOp, ho, resolve, hb, invoke, builtin, hargs, hv]
  have he : conc ρ (.str []) = .string .empty := by simp only [conc]; rfl
  split at e
  · rename_i k n t0 ts htys
    have ht0 : c.argTypes[0]? = some t0 := by rw [← Array.getElem?_toList, htys]; rfl
    replace e := brec_inv e hq
    obtain ⟨hn, e⟩ := e
    have hn := Nat.eq_of_beq_eq_true hn
    subst hn
    subst e
    refine ⟨ρ, w, run (.str []) .nptr k 0 w rfl (fun ty => ?_), .refl r t, by simp [V.ok]⟩
    rw [he]
    exact run_string_nil c.argTypes ty t0 ht0 k none w
  · rename_i id off k n t0 ts htys
    have ht0 : c.argTypes[0]? = some t0 := by rw [← Array.getElem?_toList, htys]; rfl
    simp only [oks, V.ok, and_true] at ol
    obtain ⟨loc, hl⟩ := ol
    have hat : ρ.at id = loc := by simp [Ren.at, hl]
    replace e := brec_split e
    rcases e with ⟨hn, e⟩ | ⟨hn, e⟩
    · replace e := gcells_inv e hq
      obtain ⟨cc, m, el', op, ro, fz, hg, e⟩ := e
      split at e
      · rename_i u hd
        split at e
        · rename_i lv hlv
          split at e
          · rename_i s hs
            replace e := brec_inv e hq
            obtain ⟨hbb, e⟩ := e
            rw [putK_eq] at e
            subst e
            simp only [Bool.and_eq_true] at hbb
            obtain ⟨hro, helu, hle, hty⟩ := hbb
            have hro : ro = false := by cases ro <;> simp_all
            subst hro
            have helu := Nat.eq_of_beq_eq_true helu
            subst helu
            have h63 := Nat.le_of_ble_eq_true hle.2
            have hle : off + n ≤ m := Nat.le_of_ble_eq_true hle.1
            have hsz1 : (Env.of P).size el' = some 1 := by
              split at hty
              · assumption
              · cases hty
            obtain ⟨i, hi, hi1⟩ := size_ok hsz1
            have hcells : P.cellsOf el' = 1 := by simp [Program.cellsOf, hi, hi1]
            have hlen := getCells_ok hlv
            obtain ⟨ns, e1, e2⟩ := bytes_inv hs
            have hnl : ns.length = n := by rw [← hlen.1, e1]; simp
            have hO := (r.obj id loc hl).2 _ hg
            obtain ⟨hc, hs2⟩ := hO
            obtain ⟨arr, lo, hi', h1, h2, h3, h4, h5⟩ := hs2 rfl
            have hn0 : ns.length ≠ 0 := fun h0 => by rw [hnl] at h0; subst h0; cases hn
            have hcell : ∀ (j x : Nat), ns[j]? = some x → w.cell? ⟨loc.blk, loc.sh + off + j, none⟩ = some (.int .u8 (x : Int)) := fun j x hj => by
              have hlt : j < ns.length := by
                rcases Nat.lt_or_ge j ns.length with h1 | h1
                · exact h1
                · rw [List.getElem?_eq_none h1] at hj; cases hj
              have hlj : lv[j]? = some (.int .u8 (Int.ofNat x)) := by rw [e1, List.getElem?_map, hj]; rfl
              have := (hc (off + j) _ (by omega) (hlen.2 j _ hlj)).1
              rw [show loc.sh + off + j = loc.sh + (off + j) by omega, this]
              simp only [conc]
              rfl
            have hrun := fun ty => run_string_row (P := P) c.argTypes ty t0 el' ht0 (und_ok hd) hcells k loc.blk (loc.sh + off) arr.size (shape_of h1) ns hn0 (by omega) (by omega) hcell
            obtain ⟨⟨f, f1⟩, f2, f3, f4, f5⟩ := freeze_at (w := w) (o := loc.sh + off) (n := ns.length) h1
            have hO' : ORel P ρ loc (w.freeze ⟨loc.blk, loc.sh + off, none⟩ ns.length) (.cells cc m el' op true fz) := by
              refine ⟨fun j v hj hv => ?_, nofun⟩
              have := hc j v hj hv
              refine ⟨?_, this.2⟩
              rw [cell_of f1, ← cell_of h1]
              exact this.1
            have hE := Ext.write r t hl hg rfl f2 f3 hO' f4 f5
            refine ⟨ρ, _, run (.str s) (.ptr id off) k n _ rfl (fun ty => ?_), hE, by simp [V.ok]⟩
            have := hrun ty
            rw [hnl] at this
            simp only [conc, hat]
            rw [this, e2, hnl]
          · exact absurd e hq
        · exact absurd e hq
      · exact absurd e hq
    · have hn := Nat.eq_of_beq_eq_true hn
      subst hn
      subst e
      refine ⟨ρ, w, run (.str []) (.ptr id off) k 0 w rfl (fun ty => ?_), .refl r t, by simp [V.ok]⟩
      rw [he]
      exact run_string_nil c.argTypes ty t0 ht0 k _ w
  · exact absurd e hq
end
end Go.Mx

namespace Go.Mx

section
variable {P : Program} {ρ : Ren} {tm : T V} {a : Act} {h : H} {w : World}

/-- what the class of an operation says of it -/
def ClsOk (P : Program) (op : Op) : Cls → Prop
  | .P f => ∀ {ρ : Ren} {tm : T V} {a : Act} {v : V}, Fr P ρ tm a → f (Env.of P) tm = some v → PGives P ρ a op v ∧ v.ok ρ
  | .R f ft => ∀ {ρ : Ren} {tm : T V} {a : Act} {g : G} {w : World} {v : V}, Fr P ρ tm a → f (Env.of P) tm g = some v → FootRel ρ g w (ft (Env.of P) tm) → RGives P ρ a w op v ∧ v.ok ρ
  | .A f => ∀ {ρ : Ren} {tm : T V} {a : Act} {o : O} {q : Nat → V}, Fr P ρ tm a → f (Env.of P) tm = some (o, q) → AGives P ρ a op o q ∧ o.live = true
  | .X f => ∀ {ρ : Ren} {tm : T V} {a : Act} {h : H} {w : World}, Fr P ρ tm a → Rel P ρ h.get w → Top ρ h → XGives P ρ h w a op (f (Env.of P) tm h)
  | .no => True

theorem clsConvert_ok {s d : TypeId} {x : Operand} : ClsOk P (.convert s d x) (clsConvert (Env.of P) s d x) := by
  unfold clsConvert
  split
  · exact fun fr r t => xConvert_ok fr r t rfl
  · rename_i e hs hd
    split
    · rename_i he
      exact fun fr h ft => rToStr_ok fr hs he hd h ft
    · trivial
  · exact fun fr r t => xConvert_ok fr r t rfl
  · exact fun fr r t => xConvert_ok fr r t rfl
  · exact fun fr r t => xConvert_ok fr r t rfl
  · trivial
  · trivial
  · exact fun fr h => pConvert_ok fr h
  · trivial

theorem clsCall_ok (hP : Plain P) {c : Call} : ClsOk P (.call c) (clsCall c) := by
  unfold clsCall
  cases hc : c.callee with
  | value f => exact fun fr r t => xCall_ok hP fr r t hc rfl
  | invoke x n => trivial
  | builtin b =>
    show ClsOk P (.call c) (clsBuiltin b c.argTypes c.args)
    cases b with
    | len =>
      unfold clsBuiltin
      simp only
      split
      · rename_i x t ha ht
        have ha' : c.args = #[x] := Array.ext' ha
        have ht' : c.argTypes = #[t] := Array.ext' ht
        intro ρ tm a g w v fr h ft
        exact callLen_ok fr hc ha' ht' h ft
      · trivial
    | append => exact fun fr r t => xCallAppend_ok fr r t hc rfl
    | copy => exact fun fr r t => xCopy_ok fr r t hc rfl
    | min => exact fun fr h => callMin_ok (mx := false) fr (by simpa using hc) h
    | max => exact fun fr h => callMin_ok (mx := true) fr (by simpa using hc) h
    | unsafeSliceData => exact fun fr r t => xSliceData_ok fr r t hc rfl
    | unsafeString => exact fun fr r t => xString_ok fr r t hc rfl
    | _ => trivial

theorem cls_ok (hP : Plain P) (op : Op) : ClsOk P op (cls (Env.of P) op) := by
  cases op with
  | move x => exact fun fr h => ⟨(pMove_ok fr h).1, (pMove_ok fr h).2.2⟩
  | assign x => exact fun fr h => ⟨(pMove_ok fr h).2.1, (pMove_ok fr h).2.2⟩
  | pick c x y => exact fun fr h => pPick_ok fr h
  | alloc t => exact fun fr h => aAlloc_ok h
  | box t x => exact fun fr h => aBox_ok fr h
  | build t ps => exact fun fr h => pBuild_ok fr h
  | buildSlice t n ps => exact fun fr h => aBuildSlice_ok fr h
  | insert t m k x => exact fun fr r t => (xMapUpdate_ok fr r t rfl).2
  | load t x => exact fun fr h ft => rLoad_ok fr h ft
  | store t x y => exact fun fr r t => xStore_ok fr r t rfl
  | nilCheck x => exact fun fr h => pNilCheck_ok fr h
  | binOp op t x y t' => exact fun fr h => pBin_ok fr h
  | unOp op t x => exact fun fr h => pUn_ok fr h wrapF_eq
  | convert s d x => exact clsConvert_ok
  | makeInterface t x => exact fun fr h => pMkIface_ok fr h
  | makeFunc f x y => exact fun fr h => pMkFunc_ok fr h
  | makeMap t r => exact fun fr h => aMkMap_ok fr h
  | makeSlice t x y => exact fun fr h => aMkSlice_ok fr h
  | slice t x lo hi mx => exact fun fr h => pSlice_ok fr h
  | fieldAddr t x f => exact fun fr h => pFieldAddr_ok fr h
  | field t x f => exact fun fr h => pField_ok fr h
  | indexAddr t x i => exact fun fr h => pIndexAddr_ok fr h
  | index t x i => exact fun fr h => pIndex_ok fr h
  | lookup t x k ok => exact fun fr h ft => rLookup_ok fr h ft
  | mapUpdate t m k x => exact fun fr r t => (xMapUpdate_ok fr r t rfl).1
  | mapEntry t m k => exact fun fr r t => xMapEntry_ok fr r t rfl
  | entryStore t m s x => exact fun fr r t => xEntryStore_ok fr r t rfl
  | range t x => exact fun fr r t => xRange_ok fr r t rfl
  | next x s => exact fun fr r t => xNext_ok fr r t rfl
  | entry x => exact fun fr r t => xEntry_ok fr r t rfl
  | typeAssert x t t' ok => exact fun fr h => pTypeAssert_ok fr h
  | extract t i => exact fun fr h => pExtract_ok fr h
  | call c => exact clsCall_ok hP
  | panic x => exact fun fr r t => xPanic_ok fr rfl
  | _ => trivial
end
end Go.Mx

