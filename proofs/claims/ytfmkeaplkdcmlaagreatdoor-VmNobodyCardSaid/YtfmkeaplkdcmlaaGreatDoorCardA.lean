/- marginalialaw21.VmNobody returns true for every int, and its argument reads as it did: Rows.VmNobodyCardSaid (card_holds). Conditions: those of the card: the five listed variables stand as the text lays them. -/
import Derived.Test.YtfmkeaplkdcmlaaGreatDoorRunA
import Derived.Test.YtfmkeaplkdcmlaaGreatDoorEvF
import Derived.Test.YtfmkeaplkdcmlaaGreatDoorTie
import Derived.Test.YtfmkeaplkdcmlaaGreatDoorCards
import Derived.SevenTiedAt
import Derived.Stop.Joined
namespace Go.Mx
open Go.Proofs.YtfmkeaplkdcmlaaGreatDoor
open Go.Proofs

def rho0 (a : Addr) : Ren := fun id => if id < 6 then some ⟨id, 0, 0⟩ else if id = 6 then some ⟨a.block, a.off, 0⟩ else none

theorem get_h0 {id : Nat} {o : O} (h : h0.get id = some o) : (id = 0 ∧ o = roO (flatD Rows.laid_marginalia_code_forms)) ∨ (id = 1 ∧ o = roO (flatD Rows.laid_internal_strconv_uint64pow10)) ∨ (id = 2 ∧ o = roO [.slc 6 0 12 (.known 12)]) ∨
    (id = 4 ∧ o = roO (flatD Rows.laid_math_bits_deBruijn32tab)) ∨ (id = 5 ∧ o = roO (flatD Rows.laid_math_bits_deBruijn64tab)) ∨ (id = 6 ∧ o = roO (flatDs wordsL)) := by
  have h : T.get (((((((T.blank 16).set 0 (roO (flatD Rows.laid_marginalia_code_forms))).set 1 (roO (flatD Rows.laid_internal_strconv_uint64pow10))).set 2 (roO [.slc 6 0 12 (.known 12)])).set 4 (roO (flatD Rows.laid_math_bits_deBruijn32tab))).set 5 (roO (flatD Rows.laid_math_bits_deBruijn64tab))).set 6 (roO (flatDs wordsL))) id = some o := h
  rcases T.get_set h with ⟨h1, h2⟩ | ⟨_, h⟩
  · exact .inr (.inr (.inr (.inr (.inr ⟨h1, h2⟩))))
  rcases T.get_set h with ⟨h1, h2⟩ | ⟨_, h⟩
  · exact .inr (.inr (.inr (.inr (.inl ⟨h1, h2⟩))))
  rcases T.get_set h with ⟨h1, h2⟩ | ⟨_, h⟩
  · exact .inr (.inr (.inr (.inl ⟨h1, h2⟩)))
  rcases T.get_set h with ⟨h1, h2⟩ | ⟨_, h⟩
  · exact .inr (.inr (.inl ⟨h1, h2⟩))
  rcases T.get_set h with ⟨h1, h2⟩ | ⟨_, h⟩
  · exact .inr (.inl ⟨h1, h2⟩)
  rcases T.get_set h with ⟨h1, h2⟩ | ⟨_, h⟩
  · exact .inl ⟨h1, h2⟩
  rw [T.get_blank] at h
  cases h

theorem not_live (id : Nat) : ¬ Live h0.get id := by
  rintro ⟨o, ho, hl⟩
  rcases get_h0 ho with ⟨_, rfl⟩ | ⟨_, rfl⟩ | ⟨_, rfl⟩ | ⟨_, rfl⟩ | ⟨_, rfl⟩ | ⟨_, rfl⟩ <;> cases hl

def isStr : DataW Unit → Bool
  | .lit (.string _) => true
  | _ => false
theorem flat_strs : ∀ {es : List (DataW Unit)}, es.all isStr = true → ∀ (i : Nat) v, (flatDs es)[i]? = some v → ∃ bytes, es[i]? = some (.lit (.string bytes)) ∧ v = .str bytes
  | [], _, i, v, h => by simp [flatDs] at h
  | d :: r, hs, i, v, h => by
    rw [List.all_cons, Bool.and_eq_true] at hs
    obtain ⟨bytes, rfl⟩ : ∃ bytes, d = .lit (.string bytes) := by
      have hd := hs.1
      unfold isStr at hd
      split at hd
      · exact ⟨_, rfl⟩
      · cases hd
    have h : (V.str bytes :: flatDs r)[i]? = some v := by simpa [flatDs, flatD] using h
    cases i with
    | zero => exact ⟨bytes, rfl, by simpa using h.symm⟩
    | succ i => exact flat_strs hs.2 i v (by simpa using h)
theorem words_str : ∀ (i : Nat) v, (flatDs wordsL)[i]? = some v → ∃ bytes, wordsL[i]? = some (.lit (.string bytes)) ∧ v = .str bytes := flat_strs (by kernel_rfl)

theorem init {W : World} (hL : laidMetH Tryz.prog Rows.vmNobodyRow.laid W) (hsz : ∀ g, g < Tryz.prog.globals.size → g < W.heap.size) : ∃ ρ, Glob Tryz.prog ρ ∧ Rel Tryz.prog ρ h0.get W ∧ Top ρ h0 := by
  have hgs : Tryz.prog.globals.size = 6 := by kernel_rfl
  have hwl : wordsL.length = 12 := by kernel_rfl
  rw [MakeChecks.laidMetH_plain _ _ _ (by kernel_rfl)] at hL
  obtain ⟨ps, hL, _, _⟩ := hL
  obtain ⟨g1, t1, c1, f1, p1, q1, hg1, ht1, hv1, hd1, hL, _⟩ := hL
  obtain ⟨g2, t2, c2, f2, p2, q2, hg2, ht2, hv2, hd2, hL, _⟩ := hL
  obtain ⟨g3, t3, c3, f3, p3, q3, hg3, ht3, hv3, hd3, hL, _⟩ := hL
  obtain ⟨g4, t4, c4, f4, p4, q4, hg4, ht4, hv4, hd4, hL, _⟩ := hL
  obtain ⟨g5, t5, c5, f5, p5, q5, hg5, ht5, hv5, hd5, hL, _⟩ := hL
  obtain rfl := Option.some.inj ((show Tryz.prog.globalNamed "math/bits.deBruijn32tab" = some 4 by kernel_rfl).symm.trans hg1)
  obtain rfl := Option.some.inj ((show (Tryz.prog.globals[4]?).map (·.type) = some 224 by kernel_rfl).symm.trans ht1)
  obtain rfl := Option.some.inj ((show Tryz.prog.globalNamed "math/bits.deBruijn64tab" = some 5 by kernel_rfl).symm.trans hg2)
  obtain rfl := Option.some.inj ((show (Tryz.prog.globals[5]?).map (·.type) = some 225 by kernel_rfl).symm.trans ht2)
  obtain rfl := Option.some.inj ((show Tryz.prog.globalNamed "internal/strconv.uint64pow10" = some 1 by kernel_rfl).symm.trans hg3)
  obtain rfl := Option.some.inj ((show (Tryz.prog.globals[1]?).map (·.type) = some 201 by kernel_rfl).symm.trans ht3)
  obtain rfl := Option.some.inj ((show Tryz.prog.globalNamed "marginalia/value.words" = some 2 by kernel_rfl).symm.trans hg4)
  obtain rfl := Option.some.inj ((show (Tryz.prog.globals[2]?).map (·.type) = some 24 by kernel_rfl).symm.trans ht4)
  obtain rfl := Option.some.inj ((show Tryz.prog.globalNamed "marginalia/code.forms" = some 0 by kernel_rfl).symm.trans hg5)
  obtain rfl := Option.some.inj ((show (Tryz.prog.globals[0]?).map (·.type) = some 191 by kernel_rfl).symm.trans ht5)
  obtain ⟨a, ha, hwords⟩ := strs_of_slice (P := Tryz.prog) (W := W) (es := wordsL) (fun _ => rfl) (show Tryz.prog.underlying 24 = some (.slice 9) by kernel_rfl) (show Tryz.prog.underlying 9 = some .string by kernel_rfl) (by kernel_rfl) (by rw [hwl]; omega) hd4
  rw [hwl] at ha
  have k1 := flat_cells (P := Tryz.prog) (W := W) (ρ := rho0 a) (l := flatD Rows.laid_math_bits_deBruijn32tab) 8 (show Tryz.prog.globalNamed "math/bits.deBruijn32tab" = some 4 by kernel_rfl) hv1 hd1 (by kernel_rfl) (by kernel_rfl)
  have k2 := flat_cells (P := Tryz.prog) (W := W) (ρ := rho0 a) (l := flatD Rows.laid_math_bits_deBruijn64tab) 8 (show Tryz.prog.globalNamed "math/bits.deBruijn64tab" = some 5 by kernel_rfl) hv2 hd2 (by kernel_rfl) (by kernel_rfl)
  have k3 := flat_cells (P := Tryz.prog) (W := W) (ρ := rho0 a) (l := flatD Rows.laid_internal_strconv_uint64pow10) 8 (show Tryz.prog.globalNamed "internal/strconv.uint64pow10" = some 1 by kernel_rfl) hv3 hd3 (by kernel_rfl) (by kernel_rfl)
  have k5 := flat_cells (P := Tryz.prog) (W := W) (ρ := rho0 a) (l := flatD Rows.laid_marginalia_code_forms) 8 (show Tryz.prog.globalNamed "marginalia/code.forms" = some 0 by kernel_rfl) hv5 hd5 (by kernel_rfl) (by kernel_rfl)
  have hg4' : Tryz.prog.globalNamed "marginalia/value.words" = some 2 := by kernel_rfl
  have hw0 := World.var?_cell hg4' hv4 0
  have hc4 : c4[0]? = some (.slice (some ⟨a.block, a.off, none⟩) 12 12) := by rw [← Array.getElem?_toList, ha]; rfl
  rw [hc4] at hw0
  have hab : a.block < W.heap.size := by
    obtain ⟨bytes, hb, _⟩ := words_str 0 (.str [105, 109, 112, 111, 114, 116]) (by rfl)
    have := hwords 0 bytes hb
    unfold World.cell? at this
    cases hh : W.heap[a.block]? with
    | none => simp [hh] at this
    | some o => exact (Array.getElem?_eq_some_iff.1 hh).1
  refine ⟨rho0 a, fun g hg => ?_, ⟨fun id loc hid => ?_, fun i j li lj _ _ _ _ hl => absurd hl (not_live i)⟩, ⟨fun id hid => ?_, fun id hid => ?_⟩⟩
  · rw [hgs] at hg
    simp [rho0, hg]
  · by_cases h6 : id < 6
    · have hloc : loc = ⟨id, 0, 0⟩ := by simpa [rho0, h6] using hid.symm
      subst hloc
      refine ⟨hsz id (by rw [hgs]; exact h6), fun o ho => ?_⟩
      rcases get_h0 ho with ⟨rfl, rfl⟩ | ⟨rfl, rfl⟩ | ⟨rfl, rfl⟩ | ⟨rfl, rfl⟩ | ⟨rfl, rfl⟩ | ⟨rfl, rfl⟩
      · exact roO_orel fun i v hi => by rw [Nat.zero_add]; exact k5 i v hi
      · exact roO_orel fun i v hi => by rw [Nat.zero_add]; exact k3 i v hi
      · refine roO_orel fun i v hi => ?_
        cases i with
        | zero =>
          simp only [List.getElem?_cons_zero, Option.some.injEq] at hi
          subst hi
          refine ⟨by rw [hw0]; simp [conc, Ren.at, rho0], ?_, rfl⟩
          simp only [V.ok]
          exact ⟨⟨a.block, a.off, 0⟩, by simp [rho0], Nat.le_refl _⟩
        | succ i => simp at hi
      · exact roO_orel fun i v hi => by rw [Nat.zero_add]; exact k1 i v hi
      · exact roO_orel fun i v hi => by rw [Nat.zero_add]; exact k2 i v hi
      · omega
    · by_cases h7 : id = 6
      · subst h7
        have hloc : loc = ⟨a.block, a.off, 0⟩ := by simpa [rho0] using hid.symm
        subst hloc
        refine ⟨hab, fun o ho => ?_⟩
        rcases get_h0 ho with ⟨h, _⟩ | ⟨h, _⟩ | ⟨h, _⟩ | ⟨h, _⟩ | ⟨h, _⟩ | ⟨_, rfl⟩
        · omega
        · omega
        · omega
        · omega
        · omega
        · refine roO_orel fun i v hi => ?_
          obtain ⟨bytes, hb, rfl⟩ := words_str i v hi
          exact ⟨by rw [hwords i bytes hb]; simp [conc], by simp [V.ok], rfl⟩
      · simp [rho0, h6, h7] at hid
  · have hid : 7 ≤ id := hid
    show (if id < 6 then some (⟨id, 0, 0⟩ : Loc) else if id = 6 then some ⟨a.block, a.off, 0⟩ else none) = none
    rw [if_neg (by omega), if_neg (by omega)]
  · have hid : 7 ≤ id := hid
    cases hh : h0.get id with
    | none => rfl
    | some o => rcases get_h0 hh with ⟨h, _⟩ | ⟨h, _⟩ | ⟨h, _⟩ | ⟨h, _⟩ | ⟨h, _⟩ | ⟨h, _⟩ <;> omega
end Go.Mx

namespace Go.Proofs.YtfmkeaplkdcmlaaGreatDoor
open Go.ChangeShapes Go.WideShapes Go.ChangeAt Go.RowKit
open Go.Mx

theorem isPlain : Plain Tryz.prog := fun f fn hf => by
  have h : (Tryz.prog.funcs.toList.all fun fn => !(fn.name == "runtime.NumGoroutine")) = true := by kernel_rfl
  have := List.all_eq_true.1 h fn (by rw [← Array.getElem?_toList] at hf; exact List.mem_of_getElem? hf)
  simpa using this
def bodyOk (fn : Func) : Bool := match fn.body with
  | none => true
  | some c => noRange c
theorem noRanges : ∀ (f : Nat) (fn : Func) (c : Code), Tryz.prog.funcs[f]? = some fn → fn.body = some c → noRange c = true := fun f fn c hf hb => by
  have h : (Tryz.prog.funcs.toList.all bodyOk) = true := by kernel_rfl
  have := List.all_eq_true.1 h fn (by rw [← Array.getElem?_toList] at hf; exact List.mem_of_getElem? hf)
  unfold bodyOk at this
  rw [hb] at this
  exact this
theorem mixed : Tryz.prog.follows .mixedOrders = true := by kernel_rfl
theorem isT_ret {r : FRes} (h : isT r = true) : ∃ h', r = .ret (.bool true) h' := by
  cases r with
  | no w => cases h
  | pan v h' => cases h
  | ret v h' =>
    have h : (v.boolK false fun b => b) = true := h
    rcases boolK_cases v false (fun b => b) with h1 | ⟨b, rfl, h1⟩
    · rw [h1] at h; cases h
    · rw [h1] at h
      subst h
      exact ⟨h', rfl⟩
theorem run1_ret {P : Program} (hP : Plain P) (hm : P.follows .mixedOrders = true) (hnR : ∀ (f : Nat) (fn : Func) (c : Code), P.funcs[f]? = some fn → fn.body = some c → noRange c = true) {n : Nat} {f : FuncId} {args : List V} {h h' : H} {v : V} {ρ : Ren} {w : World}
    (gl : Glob P ρ) (rel : Rel P ρ h.get w) (top : Top ρ h) (ok : oks ρ args) (e : run1 (Env.of P) n false f args h = .ret v h') :
    Calls P f ⟨concs ρ args⟩ w fun e w' => ∃ ρ', e = .returned (conc ρ' v) ∧ Ext P ρ h w ρ' h' w' ∧ v.ok ρ' := by
  have := run1_ok hP hm hnR n f args h ρ w gl rel top ok
  rw [e] at this
  exact this
theorem own : ownKnob Tryz.prog.godebug = none := by kernel_rfl

theorem runs_true (n : Int) (W : World) (hL : laidMetH Tryz.prog Rows.vmNobodyRow.laid W) (hsh : W.ShapedOpen Tryz.prog) :
    Calls Tryz.prog 3 #[.int .i64 n] W fun e W' => e = .returned (.bool true) ∧ (∀ b, b < W.heap.size → W'.heap[b]? = W.heap[b]?) ∧ ∀ may, W.keptBut W' may := by
  obtain ⟨ρ, gl, rel, top⟩ := init hL (globals_lt hsh (by kernel_rfl))
  obtain ⟨h', hr⟩ := isT_ret (runs n)
  have hc := run1_ret isPlain mixed noRanges gl rel top (show oks ρ [.int .i64 n] by simp [oks, V.ok]) hr
  have ha : (#[.int .i64 n] : Array Value) = ⟨concs ρ [.int .i64 n]⟩ := by simp [concs, conc]
  rw [ha]
  refine hc.mono fun e W' hh => ?_
  obtain ⟨ρ', rfl, ext, _⟩ := hh
  have k := kept ext not_live
  exact ⟨by simp [conc], k.1, k.2⟩

set_option maxRecDepth 100000 in
theorem lifted (os : Os) (started : os.Started) (H : Type) (enc : TypeId × Value → H) :
    ReturnsInHanded {} Tryz.checked os 3 .any (fun w args => (Rows.vmNobodySpec.pre enc Tryz.prog Tryz.f3 Rows.vmNobodyRow.domain false w args ∧ laidMetH Tryz.prog Rows.vmNobodyRow.laid w) ∧ sizedMet enc Tryz.prog Tryz.f3 (OpenSpec.ofChange Rows.vmNobodySpec) false w args)
      (Rows.vmNobodySpec.post enc Tryz.prog Tryz.f3 false true false false) := by
  refine handed_shaped (C := Tryz.checked) (X := fun w _ => laidMetH Tryz.prog Rows.vmNobodyRow.laid w) (fun _ _ _ hh h => h.of_heap hh) own started (by kernel_rfl) Tryz.func3
    (ChangeSpec.witness_shaped (enc := enc) (C := Tryz.checked) (os := os) (X := fun w _ => laidMetH Tryz.prog Rows.vmNobodyRow.laid w) false (World.laidAll Tryz.prog os Rows.vmNobodyRow.laid) #[.int .i64 0] 8 (World.laidAll_os _ _ _)
      (World.shaped_of_ZipB (by kernel_rfl) (by kernel_rfl)) (by kernel_rfl) (by kernel_rfl) (by kernel_rfl)
      (by rw [MakeChecks.laidMetH_plain _ _ _ (by kernel_rfl)]; exact laidMet_laidAll _ (by kernel_rfl) (by kernel_rfl))) ?_
  intro W base args ds gs before hsh hval0 hW hc _ hL
  have hval : ∀ (j : Nat) t v, Tryz.f3.params[j]? = some t → args[j]? = some v → Value.okWide Tryz.prog W .any base t v := hval0
  have hW' := hW
  obtain ⟨p, q, hA0, hV, rfl, _, _⟩ := hW
  have hA : DataW.TrodAll enc Tryz.prog W 0 (fun _ => true) true Tryz.f3.params.toList args.toList ds p := hA0
  rw [Tryz.params3] at hA hval
  obtain ⟨v0, d0, rfl, rfl, h0⟩ := trodAll_one hA
  obtain ⟨rfl, rfl⟩ := trodVars_none hV
  obtain ⟨x, rfl, rfl, rfl, wx⟩ := open_int Tryz.underlying3 (hval 0 3 v0 rfl rfl) h0
  simp only [List.append_nil] at hW'
  refine (runs_true x W hL hsh).mono fun e W' ⟨he, hb, hk⟩ => ?_
  subst he
  exact ⟨_, rfl, _, _, _, [], [], [], hW', trodAll_mk1 (shut_bool Tryz.underlying4 _), trodAll_mk1 (shut_int Tryz.underlying3 wx), rfl, hk _, fun h => by cases h⟩

theorem holds : Rows.VmNobodySaid :=
  OpenClaim.holds_of_wide 3 Tryz.f3 rfl rfl rfl rfl rfl rfl rfl ⟨rfl, rfl, rfl, rfl, rfl⟩ rfl rfl rfl rfl rfl (by kernel_rfl) Tryz.func3 (by kernel_rfl)
    (of_decide_eq_true (by kernel_rfl)) (by unfold Func.isWrapper; first | (rw [if_pos (by decide +kernel)]; kernel_rfl) | (rw [if_neg (by decide +kernel)]; exact ⟨rfl, rfl⟩))
    (fun os started H enc _ => lifted os started H enc)

theorem card_holds : Rows.VmNobodyCardSaid :=
  Claim7.holds_tied_plain_at .later [] [.data, .data, .data, .widerDeep, .data] true (true, "8c6e0bacb9b8e4c52a3232373e1b3da5b02c1333d2b4bd69c0c6167d4994e806") true holds (fun _ h => by cases h) (by kernel_rfl) (fun _ h => by cases h) vmNobody_row_tie rfl ⟨rfl, rfl⟩ (by kernel_rfl) rfl
    (fun f fn hf hfn => by
      obtain rfl : f = 3 := Option.some.inj ((show Tryz.prog.funcNamed "marginalia/marginalialaw21.VmNobody" = some 3 by kernel_rfl).symm.trans hf) |>.symm
      obtain rfl : fn = Tryz.f3 := (Option.some.inj (Tryz.func3.symm.trans hfn)).symm
      exact ⟨by kernel_rfl, fun j t ht => by
        rw [Tryz.params3] at ht
        have hm : t ∈ [3] := by simpa using Array.mem_of_getElem? ht
        have hall : ([3].all fun u => !Tryz.prog.wantsStandIn u) = true := by kernel_rfl
        exact (show Tryz.prog.wantsStandIn t = false by simpa using List.all_eq_true.1 hall t hm)⟩)
    (by kernel_rfl)
#print axioms card_holds
end Go.Proofs.YtfmkeaplkdcmlaaGreatDoor

