/- The evaluator: regions in list order, code, calls are sound; what an operation gives depends on its operands alone. No condition. -/
import Derived.Test.YtfmkeaplkdcmlaaGreatDoorEvC
import Derived.Tactics
import Derived.Orders
namespace Go.Mx

noncomputable def St.h (s : St) : H := St.casesOn s fun _ _ h _ => h

/-- a frame's state goes with an evaluator's -/
structure Sim (P : Program) (ρ : Ren) (s : St) (a : Act) (w : World) : Prop where
  ex : ∃ n tm h df, s = .mk n tm h df ∧ a.tmps.size = n ∧ Fr P ρ tm a ∧ Rel P ρ h.get w ∧ Top ρ h

/-- what a call gives -/
def CallOk (P : Program) (call : CallF) : Prop :=
  ∀ (f : FuncId) (args : List V) (h : H) (ρ : Ren) (w : World), Glob P ρ → Rel P ρ h.get w → Top ρ h → oks ρ args →
    match call false f args h with
    | .ret v h' => Calls P f ⟨concs ρ args⟩ w fun e w' => ∃ ρ', e = .returned (conc ρ' v) ∧ Ext P ρ h w ρ' h' w' ∧ v.ok ρ'
    | .pan v h' => Calls P f ⟨concs ρ args⟩ w fun e w' => ∃ ρ', e = .panicked [{ v := conc ρ' v, recovered := false }] ∧ Ext P ρ h w ρ' h' w' ∧ v.ok ρ'
    | .no _ => True

section
variable {P : Program} {ρ : Ren} {a : Act} {w : World}

theorem put_size (a : Act) (d : Option Tmp) (v : Value) : (a.put d v).tmps.size = a.tmps.size := by
  cases d <;> simp [Act.put]
theorem put_defers' (a : Act) (d : Option Tmp) (v : Value) : (a.put d v).defers = a.defers := by
  cases d <;> rfl
theorem fr_put {tm : T V} (fr : Fr P ρ tm a) {d : Tmp} {v : V} (ok : v.ok ρ) : d < a.tmps.size → Fr P ρ (tm.set d v) (a.put (some d) (conc ρ v)) := fun hd =>
  { tm := fun t u hu => by
      rcases T.get_set hu with ⟨rfl, rfl⟩ | ⟨hne, h⟩
      · refine ⟨?_, ok⟩
        simp [Act.put, hd]
      · have := fr.tm t u h
        refine ⟨?_, this.2⟩
        rw [← this.1]
        simp only [Act.put, Array.getD_eq_getD_getElem?]
        rw [Array.getElem?_setIfInBounds_ne (Ne.symm hne)]
    gl := fr.gl }
theorem fr_put_out {tm : T V} (fr : Fr P ρ tm a) {d : Tmp} {v : Value} (hd : ¬ d < a.tmps.size) : Fr P ρ tm (a.put (some d) v) :=
  { tm := fun t u hu => by
      have := fr.tm t u hu
      refine ⟨?_, this.2⟩
      rw [← this.1]
      simp only [Act.put]
      rw [Array.setIfInBounds_eq_of_size_le (Nat.not_lt.1 hd)]
    gl := fr.gl }
theorem fr_le {ρ' : Ren} (h : ρ.le ρ') {tm : T V} (fr : Fr P ρ tm a) : Fr P ρ' tm a :=
  ⟨tmRel_le h fr.tm, fun g hg => h _ _ (fr.gl g hg)⟩

/-- a result is put away -/
theorem putK_ok {n : Nat} {tm : T V} {h h' : H} {df : List Df} {dst : Option Tmp} {v : V} {k : St → Res} {r : Res} {ρ' : Ren} {w' : World} (hn : a.tmps.size = n) (fr : Fr P ρ' tm a) (rel : Rel P ρ' h'.get w') (top : Top ρ' h') (ok : v.ok ρ')
    (e : putK dst v h' (.mk n tm h df) k = r) : ∃ tm', k (.mk n tm' h' df) = r ∧ Sim P ρ' (.mk n tm' h' df) (a.put dst (conc ρ' v)) w' := by
  cases dst with
  | none => exact ⟨tm, e, ⟨n, tm, h', df, rfl, hn, fr, rel, top⟩⟩
  | some d =>
    have e : (Bool.rec (k (.mk n tm h' df)) (tm.setK d v fun tm' => k (.mk n tm' h' df)) (Nat.ble (Nat.succ d) n) : Res) = r := e
    rcases brec_split e with ⟨hb, e⟩ | ⟨hb, e⟩
    · refine ⟨tm, e, ⟨n, tm, h', df, rfl, by rw [put_size]; exact hn, fr_put_out fr (fun hd => ?_), rel, top⟩⟩
      have hd' : Nat.succ d ≤ n := by rw [← hn]; exact hd
      rw [Nat.ble_eq_true_of_le hd'] at hb
      cases hb
    · rw [T.setK_eq] at e
      have hd : d < n := Nat.le_of_ble_eq_true hb
      exact ⟨tm.set d v, e, ⟨n, tm.set d v, h', df, rfl, by rw [put_size]; exact hn, fr_put fr ok (by rw [hn]; exact hd), rel, top⟩⟩

theorem und_undef (ρ : Ren) : conc ρ und = undef ∧ und.ok ρ := by
  constructor
  · simp only [und, conc, concs]; rfl
  · simp [und, V.ok, oks]

/-- what comes behind an operation -/
def Nx (P : Program) (ρ : Ren) (h : H) (w : World) (a : Act) (df : List Df) (rest : St → Res) (r : Res) (a1 : Act) (w1 : World) : Prop :=
  ∃ ρ1 tm1 h1, rest (.mk a.tmps.size tm1 h1 df) = r ∧ Sim P ρ1 (.mk a.tmps.size tm1 h1 df) a1 w1 ∧ Ext P ρ h w ρ1 h1 w1 ∧ a1.defers = a.defers
/-- a panic leaves the operation -/
def Px (P : Program) (ρ : Ren) (h : H) (w : World) (a : Act) (df : List Df) (tm : T V) (r : Res) (e : Exit) (a1 : Act) (w1 : World) : Prop :=
  ∃ ρ1 h1 v, r = .ok (.pan v) (.mk a.tmps.size tm h1 df) ∧ e = .panic [{ v := conc ρ1 v, recovered := false }] ∧ a1 = a ∧ Ext P ρ h w ρ1 h1 w1 ∧ v.ok ρ1

theorem opRun_ok (hP : Plain P) {call : CallF} (hc : CallOk P call) {o : Oper} {rest : St → Res} {tm : T V} {h : H} {df : List Df} {r : Res} (hr : ∀ x, r ≠ .no x) (fr : Fr P ρ tm a) (rel : Rel P ρ h.get w) (top : Top ρ h)
    (hnr : ∀ l args h, ∃ x, call true l args h = .no x)
    (e : opRun (Env.of P) call o rest (.mk a.tmps.size tm h df) = r) {Q : Exit → Act → World → Prop} (hQ : ∀ e a1 w1, Px P ρ h w a df tm r e a1 w1 → Q e a1 w1) :
    o.wp P a w (Nx P ρ h w a df rest r) Q := by
  have ck := cls_ok hP o.op
  unfold opRun at e
  unfold Oper.wp
  cases hcls : cls (Env.of P) o.op with
  | P f =>
    rw [hcls] at e ck
    have e : (Option.rec (.no o.pos) (fun v => putK o.dst v h (.mk a.tmps.size tm h df) rest) (f (Env.of P) tm) : Res) = r := e
    replace e := orec_inv e (Ne.symm (hr _))
    obtain ⟨v, hv, e⟩ := e
    obtain ⟨hg, ok⟩ := ck fr hv
    obtain ⟨tm', e2, sim⟩ := putK_ok (h := h) rfl fr rel top ok e
    rw [hg o w rfl]
    exact ⟨ρ, tm', h, e2, sim, .refl rel top, put_defers' _ _ _⟩
  | R f ft =>
    rw [hcls] at e ck
    have e : (Option.rec (.no o.pos) (fun v => putK o.dst v h (.mk a.tmps.size tm h df) rest) (f (Env.of P) tm h.get) : Res) = r := e
    replace e := orec_inv e (Ne.symm (hr _))
    obtain ⟨v, hv, e⟩ := e
    obtain ⟨hg, ok⟩ := ck fr hv (rel.foot _)
    obtain ⟨tm', e2, sim⟩ := putK_ok (h := h) rfl fr rel top ok e
    rw [hg o rfl]
    exact ⟨ρ, tm', h, e2, sim, .refl rel top, put_defers' _ _ _⟩
  | A f =>
    rw [hcls] at e ck
    have e : (Option.rec (.no o.pos) (fun p : O × (Nat → V) => h.newK p.1 fun id h' => putK o.dst (p.2 id) h' (.mk a.tmps.size tm h df) rest) (f (Env.of P) tm) : Res) = r := e
    replace e := orec_inv e (Ne.symm (hr _))
    obtain ⟨⟨ob, q⟩, hv, e⟩ := e
    obtain ⟨hg, _⟩ := ck fr hv
    obtain ⟨x, ext, hO, hrun⟩ := hg w
    rw [newK_eq] at e
    have hE := made (P := P) (w := w) (x := x) (ext := ext) rel top hO
    obtain ⟨ok, hrun⟩ := hrun (ρ.add h.next ⟨w.heap.size, 0, ext⟩) h.next hE.le Ren.add_self
    obtain ⟨tm', e2, sim⟩ := putK_ok (h := h) rfl (fr_le hE.le fr) hE.rel hE.top ok e
    rw [hrun o rfl]
    exact ⟨_, tm', _, e2, sim, hE, put_defers' _ _ _⟩
  | X f =>
    rw [hcls] at e ck
    have e : afterX (f (Env.of P) tm h) call o (.mk a.tmps.size tm h df) rest = r := e
    have g := ck (w := w) fr rel top
    cases hx : f (Env.of P) tm h with
    | no => rw [hx] at e; exact absurd e.symm (hr _)
    | val v h' =>
      rw [hx] at e g
      obtain ⟨ρ', w', hrun, hE, ok⟩ := g
      obtain ⟨tm', e2, sim⟩ := putK_ok (h := h) rfl (fr_le hE.le fr) hE.rel hE.top ok e
      rw [hrun o rfl]
      exact ⟨_, tm', _, e2, sim, hE, put_defers' _ _ _⟩
    | skip h' =>
      rw [hx] at e g
      obtain ⟨ρ', w', hrun, hE⟩ := g
      obtain ⟨tm', e2, sim⟩ := putK_ok (h := h) rfl (fr_le hE.le fr) hE.rel hE.top (und_undef ρ').2 e
      rw [hrun o rfl]
      rw [(und_undef ρ').1] at sim
      exact ⟨_, tm', _, e2, sim, hE, put_defers' _ _ _⟩
    | enter f' args h' =>
      rw [hx] at e g
      obtain ⟨rfl, _, hrun, oka⟩ := g
      rw [hrun o rfl]
      have hcall := hc f' args h' ρ w fr.gl rel top oka
      have e : afterCall (call false f' args h') o (.mk a.tmps.size tm h' df) rest = r := e
      cases hq : call false f' args h' with
      | no x => rw [hq] at e; exact absurd e.symm (hr _)
      | ret v h2 =>
        rw [hq] at e hcall
        refine Calls.mono hcall fun e' w' he => ?_
        obtain ⟨ρ', rfl, hE, ok⟩ := he
        obtain ⟨tm', e2, sim⟩ := putK_ok (h := h') rfl (fr_le hE.le fr) hE.rel hE.top ok e
        exact ⟨_, tm', _, e2, sim, hE, put_defers' _ _ _⟩
      | pan v h2 =>
        rw [hq] at e hcall
        refine Calls.mono hcall fun e' w' he => ?_
        obtain ⟨ρ', rfl, hE, ok⟩ := he
        exact hQ _ _ _ ⟨ρ', h2, v, e.symm, rfl, rfl, hE, ok⟩
    | round l args h' =>
      rw [hx] at e
      have e : afterCall (call true l args h') o (.mk a.tmps.size tm h df) rest = r := e
      obtain ⟨x, hq⟩ := hnr l args h'
      rw [hq] at e
      exact absurd e.symm (hr _)
    | pan v h' =>
      rw [hx] at e g
      obtain ⟨rfl, hrun, ok⟩ := g
      rw [hrun o rfl]
      exact hQ _ _ _ ⟨ρ, h', v, e.symm, rfl, rfl, .refl rel top, ok⟩
  | no => rw [hcls] at e; exact absurd e.symm (hr _)
end
end Go.Mx

namespace Go.Mx

section
variable {P : Program} {ρ : Ren} {a : Act} {w : World}

theorem conc_bool {v : V} {b : Bool} (h : conc ρ v = .bool b) : v = .bool b := by
  cases v with
  | bool c => simp only [conc, Value.bool.injEq] at h; rw [h]
  | slc i o l c => obtain ⟨x, n, k, e⟩ := slc_shape ρ i o l c; rw [e] at h; cases h
  | _ => simp [conc] at h

theorem wanted_ok {ops : Array Oper} {o : Oper} {g : Nat × Bool} {tm : T V} {h : H} {df : List Df} (fr : Fr P ρ tm a) (hg : o.guard = some g) (hw : wantedOk ops.toList g (.mk a.tmps.size tm h df) = true) :
    Region.wanted o (yielded ops a.tmps) = wanted ops.toList g (.mk a.tmps.size tm h df) := by
  obtain ⟨j, want⟩ := g
  unfold Region.wanted
  rw [hg]
  simp only
  unfold yielded
  unfold wantedOk at hw
  unfold wanted
  have hd : (ops[j]?).bind (·.dst) = dstOf ops.toList j := by
    unfold dstOf
    rw [← Array.getElem?_toList]
    cases ops.toList[j]? <;> rfl
  rw [hd]
  cases hdst : dstOf ops.toList j with
  | none => simp
  | some d =>
    simp only [hdst] at hw ⊢
    have hw : (and (Nat.ble (Nat.succ d) a.tmps.size) (Option.rec false (fun _ => true) (tm.get d)) : Bool) = true := hw
    simp only [Bool.and_eq_true] at hw
    have hlt : d < a.tmps.size := Nat.le_of_ble_eq_true hw.1
    cases hv : tm.get d with
    | none => rw [hv] at hw; cases hw.2
    | some v =>
      have ht := (fr.tm d v hv).1
      rw [Array.getD_eq_getD_getElem?, Array.getElem?_eq_getElem hlt] at ht
      simp only [Option.getD_some] at ht
      have hval : a.tmps[d]? = some (conc ρ v) := by rw [Array.getElem?_eq_getElem hlt, ht]
      show _ = (v.boolK false fun b => Bool.rec (Bool.rec true false b) b want)
      simp only [Option.bind_some, hval]
      by_cases hb : ∃ b, v = .bool b
      · obtain ⟨b, rfl⟩ := hb
        simp only [conc]
        cases want <;> cases b <;> rfl
      · have hn : ∀ b, conc ρ v ≠ .bool b := fun b h => hb ⟨b, conc_bool h⟩
        split
        · rename_i b hb2
          exact absurd (Option.some.inj hb2) (hn b)
        · rcases boolK_cases v false (fun b => Bool.rec (Bool.rec true false b) b want) with h2 | ⟨b, hv2, _⟩
          · rw [h2]; simp
          · exact absurd ⟨b, hv2⟩ hb

/-- how a region, a code ends -/
inductive Ends (P : Program) (ρ : Ren) (h : H) (w : World) (a : Act) (df : List Df) : Res → Exit → Act → World → Prop where
  | normal (ρ1 tm1 h1 a1 w1) (sim : Sim P ρ1 (.mk a.tmps.size tm1 h1 df) a1 w1) (ext : Ext P ρ h w ρ1 h1 w1) (hd : a1.defers = a.defers) : Ends P ρ h w a df (.ok .normal (.mk a.tmps.size tm1 h1 df)) .normal a1 w1
  | exit (i ρ1 tm1 h1 a1 w1) (sim : Sim P ρ1 (.mk a.tmps.size tm1 h1 df) a1 w1) (ext : Ext P ρ h w ρ1 h1 w1) (hd : a1.defers = a.defers) : Ends P ρ h w a df (.ok (.exit i) (.mk a.tmps.size tm1 h1 df)) (.exit i) a1 w1
  | ret (ρ1 tm1 h1 a1 w1) (sim : Sim P ρ1 (.mk a.tmps.size tm1 h1 df) a1 w1) (ext : Ext P ρ h w ρ1 h1 w1) (hd : a1.defers = a.defers) : Ends P ρ h w a df (.ok .ret (.mk a.tmps.size tm1 h1 df)) .ret a1 w1
  | pan (v ρ1 tm1 h1 a1 w1) (sim : Sim P ρ1 (.mk a.tmps.size tm1 h1 df) a1 w1) (ext : Ext P ρ h w ρ1 h1 w1) (ok : v.ok ρ1) (hd : a1.defers = a.defers) : Ends P ρ h w a df (.ok (.pan v) (.mk a.tmps.size tm1 h1 df)) (.panic [{ v := conc ρ1 v, recovered := false }]) a1 w1

theorem Ends.after {ρ0 : Ren} {h0 : H} {w0 : World} {a0 : Act} {h : H} {df : List Df} {r : Res} {e : Exit} {a1 : Act} {w1 : World} (hE : Ext P ρ0 h0 w0 ρ h w) (hs : a.tmps.size = a0.tmps.size) (hd : a.defers = a0.defers) (x : Ends P ρ h w a df r e a1 w1) : Ends P ρ0 h0 w0 a0 df r e a1 w1 := by
  cases x with
  | normal ρ1 tm1 h1 a1 w1 sim ext hd1 => rw [hs] at *; exact .normal ρ1 tm1 h1 a1 w1 sim (hE.trans ext) (hd1.trans hd)
  | exit i ρ1 tm1 h1 a1 w1 sim ext hd1 => rw [hs] at *; exact .exit i ρ1 tm1 h1 a1 w1 sim (hE.trans ext) (hd1.trans hd)
  | ret ρ1 tm1 h1 a1 w1 sim ext hd1 => rw [hs] at *; exact .ret ρ1 tm1 h1 a1 w1 sim (hE.trans ext) (hd1.trans hd)
  | pan v ρ1 tm1 h1 a1 w1 sim ext ok hd1 => rw [hs] at *; exact .pan v ρ1 tm1 h1 a1 w1 sim (hE.trans ext) ok (hd1.trans hd)

theorem opsR_ok (hP : Plain P) {call : CallF} (hc : CallOk P call) (hnr : ∀ l args h, ∃ x, call true l args h = .no x) {ops : Array Oper} : ∀ (l : List Oper) {ρ : Ren} {a : Act} {w : World} {tm : T V} {h : H} {df : List Df} {r : Res} {Q : Exit → Act → World → Prop},
    (∀ x, r ≠ .no x) → Fr P ρ tm a → Rel P ρ h.get w → Top ρ h → opsR (Env.of P) call ops.toList l (.mk a.tmps.size tm h df) = r → (∀ e a1 w1, Ends P ρ h w a df r e a1 w1 → Q e a1 w1) → wpList P ops Q l a w
  | [], ρ, a, w, tm, h, df, r, Q, hr, fr, rel, top, e, hQ => by
    have e : Res.ok .normal (.mk a.tmps.size tm h df) = r := e
    subst e
    exact hQ _ _ _ (.normal ρ tm h a w ⟨_, _, _, _, rfl, rfl, fr, rel, top⟩ (.refl rel top) rfl)
  | o :: rest, ρ, a, w, tm, h, df, r, Q, hr, fr, rel, top, e, hQ => by
    have step : opRun (Env.of P) call o (opsR (Env.of P) call ops.toList rest) (.mk a.tmps.size tm h df) = r → o.wp P a w (wpList P ops Q rest) Q := fun e => by
      have hop := opRun_ok hP hc hr fr rel top hnr e (Q := Q) (fun e1 a1 w1 px => by
        obtain ⟨ρ1, h1, v, rfl, rfl, rfl, hE, ok⟩ := px
        exact hQ _ _ _ (.pan v ρ1 tm h1 a1 w1 ⟨_, _, _, _, rfl, rfl, fr_le hE.le fr, hE.rel, hE.top⟩ hE ok rfl))
      refine Oper.wp_mono (fun a1 w1 nx => ?_) hop
      obtain ⟨ρ1, tm1, h1, e1, ⟨n, tm2, h2, df2, heq, hn, fr1, rel1, top1⟩, hE, hd⟩ := nx
      cases heq
      rw [← hn] at e1
      exact opsR_ok hP hc hnr rest hr fr1 rel1 top1 e1 fun e a2 w2 x => hQ _ _ _ (x.after hE hn hd)
    have e : (Option.rec (opRun (Env.of P) call o (opsR (Env.of P) call ops.toList rest) (.mk a.tmps.size tm h df)) (fun g => Bool.rec (.no o.pos) (Bool.rec (unwant o (opsR (Env.of P) call ops.toList rest) (.mk a.tmps.size tm h df)) (opRun (Env.of P) call o (opsR (Env.of P) call ops.toList rest) (.mk a.tmps.size tm h df)) (wanted ops.toList g (.mk a.tmps.size tm h df))) (wantedOk ops.toList g (.mk a.tmps.size tm h df))) o.guard : Res) = r := e
    unfold wpList
    cases hg : o.guard with
    | none =>
      rw [hg] at e
      rw [if_pos (by simp [Region.wanted, hg])]
      exact .inl (step e)
    | some g =>
      rw [hg] at e
      replace e := brec_inv e (Ne.symm (hr _))
      obtain ⟨hwk, e⟩ := e
      rw [wanted_ok fr hg hwk]
      rcases brec_split e with ⟨hb, e⟩ | ⟨hb, e⟩
      · rw [hb]
        rw [if_neg (by simp)]
        have e : putK o.dst und h (.mk a.tmps.size tm h df) (opsR (Env.of P) call ops.toList rest) = r := e
        obtain ⟨tm', e2, ⟨n, tm2, h2, df2, heq, hn, fr1, rel1, top1⟩⟩ := putK_ok (h := h) rfl fr rel top (und_undef ρ).2 e
        cases heq
        rw [(und_undef ρ).1] at fr1 hn
        rw [← hn] at e2
        exact opsR_ok hP hc hnr rest hr fr1 rel1 top1 e2 fun e a2 w2 x => hQ _ _ _ (x.after (.refl rel top) hn (put_defers' _ _ _))
      · rw [hb]
        rw [if_pos rfl]
        exact .inl (step e)
end
end Go.Mx

namespace Go.Mx

section
variable {P : Program}

/-- a region that draws its order is sound -/
def DrawOk (P : Program) (call : CallF) : Prop :=
  ∀ (id : Nat) (ops : Array Oper) {ρ : Ren} {a : Act} {w : World} {tm : T V} {h : H} {df : List Df} {r : Res} {Q : Exit → Act → World → Prop},
    (∀ x, r ≠ .no x) → Fr P ρ tm a → Rel P ρ h.get w → Top ρ h → regionR (Env.of P) call ops true (.mk a.tmps.size tm h df) = r → (∀ e a1 w1, Ends P ρ h w a df r e a1 w1 → Q e a1 w1) → (Code.region id ops true).wp P Q a w

/-- code is sound -/
def CodeOk (P : Program) (c : Code) (f : St → Res) : Prop :=
  ∀ (ρ : Ren) (a : Act) (w : World) (tm : T V) (h : H) (df : List Df) (r : Res) (Q : Exit → Act → World → Prop),
    (∀ x, r ≠ .no x) → Fr P ρ tm a → Rel P ρ h.get w → Top ρ h → f (.mk a.tmps.size tm h df) = r → (∀ e a1 w1, Ends P ρ h w a df r e a1 w1 → Q e a1 w1) → c.wp P Q a w

theorem seqR_cases {a b : St → Res} {s : St} {r : Res} (e : seqR a b s = r) (hr : ∀ x, r ≠ .no x) :
    (∃ s', a s = .ok .normal s' ∧ b s' = r) ∨ (∃ o s', a s = .ok o s' ∧ o ≠ .normal ∧ r = .ok o s') := by
  unfold seqR at e
  cases hx : a s with
  | no w => rw [hx] at e; exact absurd e.symm (hr _)
  | ok o s' =>
    rw [hx] at e
    cases o with
    | normal => exact .inl ⟨s', rfl, e⟩
    | exit i => exact .inr ⟨_, s', rfl, by simp, e.symm⟩
    | ret => exact .inr ⟨_, s', rfl, by simp, e.symm⟩
    | pan v => exact .inr ⟨_, s', rfl, by simp, e.symm⟩

/-- one piece of code after the other -/
theorem then_ok {ca : Code} {fa fb : St → Res} (ha : CodeOk P ca fa) {ρ : Ren} {a : Act} {w : World} {tm : T V} {h : H} {df : List Df} {r : Res} {Q : Exit → Act → World → Prop} {K : Act → World → Prop}
    (hr : ∀ x, r ≠ .no x) (fr : Fr P ρ tm a) (rel : Rel P ρ h.get w) (top : Top ρ h) (e : seqR fa fb (.mk a.tmps.size tm h df) = r) (hQ : ∀ e a1 w1, Ends P ρ h w a df r e a1 w1 → Q e a1 w1)
    (hK : ∀ ρ1 tm1 h1 a1 w1, a1.tmps.size = a.tmps.size → Fr P ρ1 tm1 a1 → Rel P ρ1 h1.get w1 → Top ρ1 h1 → Ext P ρ h w ρ1 h1 w1 → a1.defers = a.defers → fb (.mk a1.tmps.size tm1 h1 df) = r → K a1 w1) : ca.wp P (Exit.then K Q) a w := by
  rcases seqR_cases e hr with ⟨s', e1, e2⟩ | ⟨o, s', e1, hne, e2⟩
  · refine ha _ _ _ _ _ _ (.ok .normal s') _ (by simp) fr rel top e1 fun ex a1 w1 x => ?_
    cases x with
    | normal ρ1 tm1 h1 a1 w1 sim ext hd =>
      obtain ⟨n, tm2, h2, df2, heq, hn, fr1, rel1, top1⟩ := sim
      cases heq
      exact hK _ _ _ _ _ hn fr1 rel1 top1 ext hd (by rw [hn]; exact e2)
  · subst e2
    refine ha _ _ _ _ _ _ _ _ (by simp) fr rel top e1 fun ex a1 w1 x => ?_
    have q := hQ _ _ _ x
    cases x with
    | normal => exact absurd rfl hne
    | exit => exact q
    | ret => exact q
    | pan => exact q

theorem loop_fuel {c : Code} {Q : Exit → Act → World → Prop} (R : Nat → Act → World → Prop) (hz : ∀ a w, ¬ R 0 a w) (round : ∀ m a w, R (m + 1) a w → c.wp P (Exit.then (R m) Q) a w) {n : Nat} {a : Act} {w : World} (h0 : R n a w) : (Code.loop c).wp P Q a w := by
  intro b k cs
  have key : ∀ n a w, R n a w → ∃ e a' w', Q e a' w' ∧ Arrives P (lone (b.at a (.code c :: .inLoop c :: k)) cs w) b k cs e a' w' := by
    intro n
    induction n with
    | zero => intro a w h; exact absurd h (hz a w)
    | succ m ih =>
      intro a w h
      obtain ⟨e, a1, w1, hq, harr⟩ := round m a w h b (.inLoop c :: k) cs
      cases e with
      | normal =>
        obtain ⟨e2, a2, w2, hq2, harr2⟩ := ih a1 w1 hq
        exact ⟨e2, a2, w2, hq2, .of_steps (Steps.trans harr (.one step_inLoop)) harr2⟩
      | exit id => exact ⟨_, a1, w1, hq, .pass (x := .inLoop c) rfl (fun _ _ => .inl (by simp)) harr⟩
      | goto l => exact ⟨_, a1, w1, hq, .pass (x := .inLoop c) rfl (fun _ _ => .inl (by simp)) harr⟩
      | ret => exact ⟨_, a1, w1, hq, .pass (x := .inLoop c) rfl (fun _ _ => .inl (by simp)) harr⟩
      | panic ch => exact ⟨_, a1, w1, hq, .pass (x := .inLoop c) rfl (fun _ _ => .inl (by simp)) harr⟩
      | outgrown => exact ⟨_, a1, w1, hq, .pass (x := .inLoop c) rfl (fun _ _ => .inl (by simp)) harr⟩
  obtain ⟨e, a', w', hq, harr⟩ := key n a w h0
  exact ⟨e, a', w', hq, .of_steps (.one step_loop) harr⟩

/-- no range over a function -/
def noRange : Code → Bool
  | .seq a b => noRange a && noRange b
  | .cond _ a b => noRange a && noRange b
  | .block _ a => noRange a
  | .loop a => noRange a
  | .rangeFunc .. => false
  | .scope _ => true
  | _ => true

theorem execC_ok (hP : Plain P) {call : CallF} (hc : CallOk P call) (hnr : ∀ l args h, ∃ x, call true l args h = .no x) (hd : DrawOk P call) (f : FuncId) (rd : Option Nat) : ∀ c : Code, noRange c = true → CodeOk P c (execC (Env.of P) call f rd c)
  | .skip, _ => by
    intro ρ a w tm h df r Q hr fr rel top e hQ
    have e : Res.ok .normal (.mk a.tmps.size tm h df) = r := e
    subst e
    exact wp_skip (hQ _ _ _ (.normal ρ tm h a w ⟨_, _, _, _, rfl, rfl, fr, rel, top⟩ (.refl rel top) rfl))
  | .label l, _ => by
    intro ρ a w tm h df r Q hr fr rel top e hQ
    have e : Res.ok .normal (.mk a.tmps.size tm h df) = r := e
    subst e
    exact wp_label (hQ _ _ _ (.normal ρ tm h a w ⟨_, _, _, _, rfl, rfl, fr, rel, top⟩ (.refl rel top) rfl))
  | .exit i, _ => by
    intro ρ a w tm h df r Q hr fr rel top e hQ
    have e : Res.ok (.exit i) (.mk a.tmps.size tm h df) = r := e
    subst e
    exact wp_exit (hQ _ _ _ (.exit i ρ tm h a w ⟨_, _, _, _, rfl, rfl, fr, rel, top⟩ (.refl rel top) rfl))
  | .ret, _ => by
    intro ρ a w tm h df r Q hr fr rel top e hQ
    have e : Res.ok .ret (.mk a.tmps.size tm h df) = r := e
    subst e
    exact wp_ret (hQ _ _ _ (.ret ρ tm h a w ⟨_, _, _, _, rfl, rfl, fr, rel, top⟩ (.refl rel top) rfl))
  | .goto l, _ => by
    intro ρ a w tm h df r Q hr fr rel top e hQ
    exact absurd e.symm (hr _)
  | .refuse l, _ => by
    intro ρ a w tm h df r Q hr fr rel top e hQ
    exact absurd e.symm (hr _)
  | .scope l, _ => by
    intro ρ a w tm h df r Q hr fr rel top e hQ
    exact absurd e.symm (hr _)
  | .rangeFunc .., hn => by cases hn
  | .region id ops draw, _ => by
    intro ρ a w tm h df r Q hr fr rel top e hQ
    cases draw with
    | false =>
      have e : opsR (Env.of P) call ops.toList ops.toList (.mk a.tmps.size tm h df) = r := e
      exact wp_region_list (opsR_ok hP hc hnr ops.toList hr fr rel top e hQ)
    | true => exact hd id ops hr fr rel top e hQ
  | .seq x y, hn => by
    intro ρ a w tm h df r Q hr fr rel top e hQ
    simp only [noRange, Bool.and_eq_true] at hn
    refine wp_seq (then_ok (execC_ok hP hc hnr hd f rd x hn.1) hr fr rel top (show seqR (execC (Env.of P) call f rd x) (execC (Env.of P) call f rd y) _ = r from e) hQ ?_)
    intro ρ1 tm1 h1 a1 w1 hs fr1 rel1 top1 ext1 hdf e1
    exact execC_ok hP hc hnr hd f rd y hn.2 _ _ _ _ _ _ _ _ hr fr1 rel1 top1 e1 fun ex a2 w2 q => hQ _ _ _ (q.after ext1 hs hdf)
  | .cond c x y, hn => by
    intro ρ a w tm h df r Q hr fr rel top e hQ
    simp only [noRange, Bool.and_eq_true] at hn
    have e : (opdK (Env.of P) c tm (fun _ _ _ => .no "cond") (fun v s a b => v.boolK (.no "cond") fun t => Bool.rec (b s) (a s) t) (St.mk a.tmps.size tm h df) (execC (Env.of P) call f rd x) (execC (Env.of P) call f rd y) : Res) = r := e
    rcases opdK_all fr c with ⟨v, ev, ok, all⟩ | all
    · rw [all] at e
      replace e := boolK_inv e (Ne.symm (hr _))
      obtain ⟨t, rfl, e⟩ := e
      simp only [conc] at ev
      refine wp_cond ev ?_
      cases t with
      | true => exact execC_ok hP hc hnr hd f rd x hn.1 _ _ _ _ _ _ _ _ hr fr rel top e hQ
      | false => exact execC_ok hP hc hnr hd f rd y hn.2 _ _ _ _ _ _ _ _ hr fr rel top e hQ
    · rw [all] at e
      exact absurd e.symm (hr _)
  | .block i x, hn => by
    intro ρ a w tm h df r Q hr fr rel top e hQ
    have e : blockR i (execC (Env.of P) call f rd x) (.mk a.tmps.size tm h df) = r := e
    unfold blockR at e
    cases hx : execC (Env.of P) call f rd x (.mk a.tmps.size tm h df) with
    | no m => rw [hx] at e; exact absurd e.symm (hr _)
    | ok o s' =>
      rw [hx] at e
      refine wp_block (execC_ok hP hc hnr hd f rd x hn _ _ _ _ _ _ _ _ (by simp) fr rel top hx fun ex a1 w1 q => ?_)
      cases q with
      | normal ρ1 tm1 h1 a1 w1 sim ext hdf =>
        have e : Res.ok .normal (.mk a.tmps.size tm1 h1 df) = r := e
        subst e
        exact hQ _ _ _ (.normal ρ1 tm1 h1 a1 w1 sim ext hdf)
      | exit j ρ1 tm1 h1 a1 w1 sim ext hdf =>
        have e : (Bool.rec (.ok (.exit j) (.mk a.tmps.size tm1 h1 df)) (.ok .normal (.mk a.tmps.size tm1 h1 df)) (Nat.beq j i) : Res) = r := e
        rcases brec_split e with ⟨hb, e⟩ | ⟨hb, e⟩
        · subst e
          have hne : ¬ j = i := fun h => by subst h; rw [Nat.beq_refl] at hb; cases hb
          show (if j = i then _ else _)
          rw [if_neg hne]
          exact hQ _ _ _ (.exit j ρ1 tm1 h1 a1 w1 sim ext hdf)
        · subst e
          have := Nat.eq_of_beq_eq_true hb
          show (if j = i then _ else _)
          rw [if_pos this]
          exact hQ _ _ _ (.normal ρ1 tm1 h1 a1 w1 sim ext hdf)
      | ret ρ1 tm1 h1 a1 w1 sim ext hdf =>
        have e : Res.ok .ret (.mk a.tmps.size tm1 h1 df) = r := e
        subst e
        exact hQ _ _ _ (.ret ρ1 tm1 h1 a1 w1 sim ext hdf)
      | pan v ρ1 tm1 h1 a1 w1 sim ext ok hdf =>
        have e : Res.ok (.pan v) (.mk a.tmps.size tm1 h1 df) = r := e
        subst e
        exact hQ _ _ _ (.pan v ρ1 tm1 h1 a1 w1 sim ext ok hdf)
  | .loop x, hn => by
    intro ρ a w tm h df r Q hr fr rel top e hQ
    have ih := execC_ok hP hc hnr hd f rd x hn
    have e : loopR (execC (Env.of P) call f rd x) (.mk a.tmps.size tm h df) = r := e
    unfold loopR at e
    revert e
    generalize 1000000 = N
    intro e
    let lf : Nat → St → Res := fun n s => Nat.rec (motive := fun _ => St → Res) (fun _ => .no "loop") (fun _ ih s => seqR (execC (Env.of P) call f rd x) ih s) n s
    have e : lf N (.mk a.tmps.size tm h df) = r := e
    refine loop_fuel (fun n a1 w1 => ∃ ρ1 tm1 h1, a1.tmps.size = a.tmps.size ∧ Fr P ρ1 tm1 a1 ∧ Rel P ρ1 h1.get w1 ∧ Top ρ1 h1 ∧ Ext P ρ h w ρ1 h1 w1 ∧ a1.defers = a.defers ∧ lf n (.mk a1.tmps.size tm1 h1 df) = r)
      ?_ ?_ (n := N) ⟨ρ, tm, h, rfl, fr, rel, top, .refl rel top, rfl, e⟩
    · rintro a1 w1 ⟨ρ1, tm1, h1, _, _, _, _, _, _, e1⟩
      exact absurd e1.symm (hr _)
    · rintro m a1 w1 ⟨ρ1, tm1, h1, hs1, fr1, rel1, top1, ext1, hd1, e1⟩
      refine then_ok ih hr fr1 rel1 top1 (show seqR (execC (Env.of P) call f rd x) (lf m) _ = r from e1) (fun ex a2 w2 q => hQ _ _ _ (q.after ext1 hs1 hd1)) ?_
      intro ρ2 tm2 h2 a2 w2 hs2 fr2 rel2 top2 ext2 hd2 e2
      exact ⟨ρ2, tm2, h2, hs2.trans hs1, fr2, rel2, top2, ext1.trans ext2, hd2.trans hd1, e2⟩
end
end Go.Mx

namespace Go.Mx

section
variable {P : Program}

theorem get_init : ∀ {args : List V} {t : T V} {i j : Nat} {v : V}, (initK args t i fun t => t).get j = some v → (i ≤ j ∧ args[j - i]? = some v) ∨ ((j < i ∨ i + args.length ≤ j) ∧ t.get j = some v)
  | [], t, i, j, v, h => .inr ⟨by simp; omega, h⟩
  | u :: r, t, i, j, v, h => by
    have h : (t.setK i u fun t' => initK r t' (Nat.succ i) fun t => t).get j = some v := h
    rw [T.setK_eq] at h
    rcases get_init (args := r) h with ⟨h1, h2⟩ | ⟨h1, h2⟩
    · refine .inl ⟨by omega, ?_⟩
      rw [show j - i = (j - (i + 1)) + 1 by omega, List.getElem?_cons_succ]
      exact h2
    · rcases T.get_set h2 with ⟨rfl, rfl⟩ | ⟨h3, h4⟩
      · exact .inl ⟨Nat.le_refl _, by simp⟩
      · exact .inr ⟨by simp; omega, h4⟩
theorem initK_eq {β : Type} : ∀ (args : List V) (t : T V) (i : Nat) (k : T V → β), initK args t i k = k (initK args t i fun t => t)
  | [], t, i, k => rfl
  | v :: r, t, i, k => by
    show t.setK i v (fun t' => initK r t' (Nat.succ i) k) = k (t.setK i v fun t' => initK r t' (Nat.succ i) fun t => t)
    rw [T.setK_eq, T.setK_eq, initK_eq r]

/-- a frame as it is entered -/
theorem fr_enter {ρ : Ren} {args : List V} {n d : Nat} (hg : Glob P ρ) (ok : oks ρ args) (hn : args.length ≤ n) :
    Fr P ρ (initK args (T.full und d) 0 fun t => t) { tmps := (⟨concs ρ args⟩ : Array Value) ++ Array.replicate (n - (⟨concs ρ args⟩ : Array Value).size) undef, defers := [] } where
  tm := fun j v h => by
    have hsz : (⟨concs ρ args⟩ : Array Value).size = args.length := by simp [concs_length]
    rcases get_init h with ⟨_, h2⟩ | ⟨h1, h2⟩
    · rw [Nat.sub_zero] at h2
      refine ⟨?_, oks_iff.1 ok v (List.mem_of_getElem? h2)⟩
      have hlt : j < args.length := by
        rcases Nat.lt_or_ge j args.length with h | h
        · exact h
        · rw [List.getElem?_eq_none h] at h2; cases h2
      rw [Array.getD_eq_getD_getElem?, Array.getElem?_append_left (by rw [hsz]; exact hlt)]
      have : (⟨concs ρ args⟩ : Array Value)[j]? = some (conc ρ v) := by simp [concs_getElem?, h2]
      rw [this]; rfl
    · have hv := T.get_full h2
      subst hv
      refine ⟨?_, (und_undef ρ).2⟩
      rw [(und_undef ρ).1, Array.getD_eq_getD_getElem?]
      have hge : args.length ≤ j := by omega
      rw [Array.getElem?_append_right (by rw [hsz]; exact hge)]
      rw [Array.getElem?_replicate]
      split <;> rfl
  gl := hg
end
end Go.Mx

namespace Go.Mx

def resSem (tmps : Array Value) : ResultVar → Sem Value
  | .tmp t => pure (tmps.getD t undef)
  | .cell a t => do loadVar t (← asAddr (tmps.getD a undef))

section
variable {P : Program}

theorem resK_inv {tm : T V} {h : H} {r : FRes} (hr : ∀ x, r ≠ .no x) {ρ : Ren} {a : Act} {w : World} (fr : Fr P ρ tm a) (rel : Rel P ρ h.get w) : ∀ (l : List ResultVar) {k : List V → FRes}, resultsK (Env.of P) l tm h k = r →
    ∃ vs, k vs = r ∧ oks ρ vs ∧ (l.mapM (resSem a.tmps)).run P w = .ok (concs ρ vs) w
  | [], k, e => ⟨[], e, trivial, by simp [concs]⟩
  | .tmp t :: l, k, e => by
    have e : (Option.rec (.no "result") (fun v => resultsK (Env.of P) l tm h fun vs => k (v :: vs)) (tm.get t) : FRes) = r := e
    replace e := orec_inv e (Ne.symm (hr _))
    obtain ⟨v, hv, e⟩ := e
    obtain ⟨vs, e1, o1, run⟩ := resK_inv hr fr rel l e
    have ht := fr.tm t v hv
    refine ⟨v :: vs, e1, ⟨ht.2, o1⟩, ?_⟩
    simp [List.mapM_cons, resSem, ht.1, run, concs]
  | .cell b ty :: l, k, e => by
    have e : (Option.rec (.no "result") (fun v => V.ptrK v (.no "result") fun id off => Option.rec (.no "result") (fun v => resultsK (Env.of P) l tm h fun vs => k (v :: vs)) (loadG ((Env.of P).wd ty) h.get id off)) (tm.get b) : FRes) = r := e
    replace e := orec_inv e (Ne.symm (hr _))
    obtain ⟨p, hp, e⟩ := e
    replace e := ptrK_inv e (Ne.symm (hr _))
    obtain ⟨id, off, rfl, e⟩ := e
    replace e := orec_inv e (Ne.symm (hr _))
    obtain ⟨v, hv, e⟩ := e
    obtain ⟨vs, e1, o1, run⟩ := resK_inv hr fr rel l e
    have hb := fr.tm b _ hp
    have hl := loadG_ok hv hb.2 (rel.foot _)
    have hb1 := hb.1
    simp only [conc] at hb1
    refine ⟨v :: vs, e1, ⟨hl.2, o1⟩, ?_⟩
    simp [List.mapM_cons, resSem, hb1, asAddr, hl.1, run, concs]

theorem results_ok {fn : Func} {tmps : Array Value} {ρ : Ren} {vs : List V} {w : World} (run : (fn.results.toList.mapM (resSem tmps)).run P w = .ok (concs ρ vs) w) : (results fn tmps).run P w = .ok (conc ρ (oneOr vs)) w := by
  have hm : (fn.results.mapM (resSem tmps)).run P w = .ok (concs ρ vs).toArray w := by
    rw [Array.mapM_eq_mapM_toList]
    simp [run]
  have he : results fn tmps = (do
    let vs ← fn.results.mapM (resSem tmps)
    pure (if h : vs.size = 1 then vs[0] else .tuple vs)) := by
    unfold results
    congr 1
  rw [he]
  simp only [Sem.run_bind, hm, Result.andThen_ok, Sem.run_pure]
  cases vs with
  | nil => simp [concs, oneOr, conc]
  | cons v r =>
    cases r with
    | nil => simp [concs, oneOr]
    | cons u r => simp [concs, oneOr, conc]
end
end Go.Mx

namespace Go.Mx

section
variable {P : Program}

/-- what is promised of a call's outcome -/
def OutOk (P : Program) (f : FuncId) (args : List V) (h : H) (ρ : Ren) (w : World) : FRes → Prop
  | .ret v h' => Calls P f ⟨concs ρ args⟩ w fun e w' => ∃ ρ', e = .returned (conc ρ' v) ∧ Ext P ρ h w ρ' h' w' ∧ v.ok ρ'
  | .pan v h' => Calls P f ⟨concs ρ args⟩ w fun e w' => ∃ ρ', e = .panicked [{ v := conc ρ' v, recovered := false }] ∧ Ext P ρ h w ρ' h' w' ∧ v.ok ρ'
  | .no _ => True

theorem endF_ok {fn : Func} {n : Nat} {tm : T V} {h : H} {r : FRes} (hr : ∀ x, r ≠ .no x) (e : endF (Env.of P) fn (.mk n tm h []) = r) {ρ : Ren} {a : Act} {w : World} (fr : Fr P ρ tm a) (rel : Rel P ρ h.get w) :
    ∃ v, r = .ret v h ∧ v.ok ρ ∧ (results fn a.tmps).run P w = .ok (conc ρ v) w := by
  have e : resultsK (Env.of P) fn.results.toList tm h (fun l => .ret (oneOr l) h) = r := e
  obtain ⟨vs, e1, ok, run⟩ := resK_inv hr fr rel fn.results.toList e
  refine ⟨oneOr vs, e1.symm, ?_, results_ok run⟩
  cases vs with
  | nil => simp [oneOr, V.ok, oks]
  | cons v q =>
    cases q with
    | nil => exact ok.1
    | cons u q => simp only [oneOr, V.ok]; exact ok

theorem callBody_ok (hP : Plain P) {call : CallF} (hc : CallOk P call) (hnr : ∀ l args h, ∃ x, call true l args h = .no x) (hd : DrawOk P call) {f : FuncId} {fn : Func} {c : Code} (hf : P.funcs[f]? = some fn) (hb : fn.body = some c) (hn : noRange c = true)
    {args : List V} {h : H} {ρ : Ren} {w : World} (gl : Glob P ρ) (rel : Rel P ρ h.get w) (top : Top ρ h) (ok : oks ρ args) {r : FRes} (hr : ∀ x, r ≠ .no x) (e : callBody (Env.of P) call f fn c args h = r) : OutOk P f args h ρ w r := by
  unfold callBody at e
  replace e := brec_inv e (Ne.symm (hr _))
  obtain ⟨hle, e⟩ := e
  have hle := Nat.le_of_ble_eq_true hle
  rw [initK_eq] at e
  have fr := fr_enter (P := P) (n := fn.ntmps) (d := Nat.succ (Nat.log2 fn.ntmps)) gl ok hle
  generalize htm : initK args (T.full und (Nat.succ (Nat.log2 fn.ntmps))) 0 (fun t => t) = tm at e fr
  generalize ha : ({ tmps := (⟨concs ρ args⟩ : Array Value) ++ Array.replicate (fn.ntmps - (⟨concs ρ args⟩ : Array Value).size) undef, defers := [] } : Act) = a at fr
  have hsz : a.tmps.size = fn.ntmps := by
    rw [← ha]; simp [concs_length]; omega
  have hdf : a.defers = [] := by rw [← ha]
  rw [← hsz] at e
  cases hx : execC (Env.of P) call f none c (.mk a.tmps.size tm h []) with
  | no m => rw [hx] at e; exact absurd e.symm (hr _)
  | ok o s' =>
    rw [hx] at e
    have body := fun Q hQ => execC_ok hP hc hnr hd f none c hn _ _ _ _ _ _ (.ok o s') Q (by simp) fr rel top hx hQ
    have main : ∀ R : Ending → World → Prop, (∀ ex a1 w1, Ends P ρ h w a [] (.ok o s') ex a1 w1 → bodyPost P fn R ex a1 w1) → Calls P f ⟨concs ρ args⟩ w R := fun R hR =>
      calls_of_wp hf hb (by rw [ha]; exact body _ hR)
    cases r with
    | no x => trivial
    | ret v h' =>
      refine main _ fun ex a1 w1 q => ?_
      cases q with
      | normal ρ1 tm1 h1 a1 w1 sim ext hd1 =>
        obtain ⟨n, tm2, h2, df2, heq, hn1, fr1, rel1, top1⟩ := sim
        cases heq
        obtain ⟨u, e1, ou, run⟩ := endF_ok (P := P) (fn := fn) (n := a.tmps.size) hr e fr1 rel1
        cases e1
        exact ⟨hd1.trans hdf, _, run, ρ1, rfl, ext, ou⟩
      | ret ρ1 tm1 h1 a1 w1 sim ext hd1 =>
        obtain ⟨n, tm2, h2, df2, heq, hn1, fr1, rel1, top1⟩ := sim
        cases heq
        obtain ⟨u, e1, ou, run⟩ := endF_ok (P := P) (fn := fn) (n := a.tmps.size) hr e fr1 rel1
        cases e1
        exact ⟨hd1.trans hdf, _, run, ρ1, rfl, ext, ou⟩
      | exit i ρ1 tm1 h1 a1 w1 sim ext hd1 => exact absurd e.symm (hr _)
      | pan v ρ1 tm1 h1 a1 w1 sim ext ok1 hd1 => cases e
    | pan v h' =>
      refine main _ fun ex a1 w1 q => ?_
      cases q with
      | normal ρ1 tm1 h1 a1 w1 sim ext hd1 =>
        obtain ⟨n, tm2, h2, df2, heq, hn1, fr1, rel1, top1⟩ := sim
        cases heq
        obtain ⟨u, e1, ou, run⟩ := endF_ok (P := P) (fn := fn) (n := a.tmps.size) hr e fr1 rel1
        cases e1
      | ret ρ1 tm1 h1 a1 w1 sim ext hd1 =>
        obtain ⟨n, tm2, h2, df2, heq, hn1, fr1, rel1, top1⟩ := sim
        cases heq
        obtain ⟨u, e1, ou, run⟩ := endF_ok (P := P) (fn := fn) (n := a.tmps.size) hr e fr1 rel1
        cases e1
      | exit i ρ1 tm1 h1 a1 w1 sim ext hd1 => exact absurd e.symm (hr _)
      | pan v ρ1 tm1 h1 a1 w1 sim ext ok1 hd1 =>
        cases e
        exact ⟨hd1.trans hdf, ρ1, rfl, ext, ok1⟩
end
end Go.Mx

namespace Go.Mx

noncomputable def run0 (E : Env) (n : Nat) : CallF :=
  Nat.rec (motive := fun _ => CallF) (fun _ _ _ _ => .no "deep") (fun _ ih rd f args h =>
    Bool.rec (Option.rec (.no "f") (fun fn => Option.rec (.no "f") (fun c => callBody E ih f fn c args h) fn.body) (E.funcs.get f)) (.no "round") rd) n

section
variable {P : Program}

theorem run0_round (E : Env) (n : Nat) : ∀ l args h, ∃ x, run0 E n true l args h = .no x := by
  intro l args h
  cases n with
  | zero => exact ⟨_, rfl⟩
  | succ n => exact ⟨_, rfl⟩

theorem run0_ok (hP : Plain P) (hn : ∀ (f : Nat) (fn : Func) (c : Code), P.funcs[f]? = some fn → fn.body = some c → noRange c = true)
    (hd : ∀ call : CallF, CallOk P call → (∀ l args h, ∃ x, call true l args h = .no x) → DrawOk P call) : ∀ n, CallOk P (run0 (Env.of P) n)
  | 0 => fun f args h ρ w gl rel top ok => trivial
  | n + 1 => fun f args h ρ w gl rel top ok => by
    have ih := run0_ok hP hn hd n
    have key : ∀ r, run0 (Env.of P) (n + 1) false f args h = r → OutOk P f args h ρ w r := by
      intro r e
      cases r with
      | no x => trivial
      | ret v h' =>
        have hr : ∀ x, FRes.ret v h' ≠ .no x := by simp
        have e : (Option.rec (.no "f") (fun fn => Option.rec (.no "f") (fun c => callBody (Env.of P) (run0 (Env.of P) n) f fn c args h) fn.body) ((Env.of P).funcs.get f) : FRes) = .ret v h' := e
        replace e := orec_inv e (Ne.symm (hr _))
        obtain ⟨fn, hf, e⟩ := e
        replace e := orec_inv e (Ne.symm (hr _))
        obtain ⟨c, hb, e⟩ := e
        exact callBody_ok hP ih (run0_round _ n) (hd _ ih (run0_round _ n)) (funcs_get hf) hb (hn f fn c (funcs_get hf) hb) gl rel top ok hr e
      | pan v h' =>
        have hr : ∀ x, FRes.pan v h' ≠ .no x := by simp
        have e : (Option.rec (.no "f") (fun fn => Option.rec (.no "f") (fun c => callBody (Env.of P) (run0 (Env.of P) n) f fn c args h) fn.body) ((Env.of P).funcs.get f) : FRes) = .pan v h' := e
        replace e := orec_inv e (Ne.symm (hr _))
        obtain ⟨fn, hf, e⟩ := e
        replace e := orec_inv e (Ne.symm (hr _))
        obtain ⟨c, hb, e⟩ := e
        exact callBody_ok hP ih (run0_round _ n) (hd _ ih (run0_round _ n)) (funcs_get hf) hb (hn f fn c (funcs_get hf) hb) gl rel top ok hr e
    have := key _ rfl
    cases hq : run0 (Env.of P) (n + 1) false f args h with
    | no x => trivial
    | ret v h' => rw [hq] at this; exact this
    | pan v h' => rw [hq] at this; exact this
end
end Go.Mx

namespace Go.Mx

section
variable {E : Env} {tm tm' : T V} {β : Type}

/-- two slot trees agree at an operand -/
def AgreeAt (tm tm' : T V) (x : Operand) : Prop := ∀ t, x = .tmp t → tm.get t = tm'.get t

theorem opdK_congr {x : Operand} (h : AgreeAt tm tm' x) (no : β) (k : V → β) : opdK E x tm no k = opdK E x tm' no k := by
  cases x with
  | tmp t =>
    show (Option.rec no k (tm.get t) : β) = Option.rec no k (tm'.get t)
    rw [h t rfl]
  | _ => rfl
theorem opdsK_congr : ∀ {xs : List Operand}, (∀ x ∈ xs, AgreeAt tm tm' x) → ∀ (no : β) (k : List V → β), opdsK E xs tm no k = opdsK E xs tm' no k
  | [], h, no, k => rfl
  | x :: r, h, no, k => by
    show opdK E x tm no (fun v => opdsK E r tm no fun l => k (v :: l)) = opdK E x tm' no (fun v => opdsK E r tm' no fun l => k (v :: l))
    rw [opdK_congr (h x (by simp))]
    congr 1
    funext v
    exact opdsK_congr (fun y hy => h y (by simp [hy])) no _
theorem partsK_congr : ∀ {xs : List (Nat × Operand)}, (∀ x ∈ xs, AgreeAt tm tm' x.2) → ∀ (no : β) (k : List (Nat × V) → β), partsK E xs tm no k = partsK E xs tm' no k
  | [], h, no, k => rfl
  | x :: r, h, no, k => by
    show opdK E x.2 tm no (fun v => partsK E r tm no fun l => k ((x.1, v) :: l)) = opdK E x.2 tm' no (fun v => partsK E r tm' no fun l => k ((x.1, v) :: l))
    rw [opdK_congr (h x (by simp))]
    congr 1
    funext v
    exact partsK_congr (fun y hy => h y (by simp [hy])) no _
end

/-- a class's functions, at two slot trees that agree at the operands -/
def ClsCongr (E : Env) (op : Op) : Cls → Prop
  | .P f => ∀ tm tm' : T V, (∀ x ∈ op.operands.toList, AgreeAt tm tm' x) → f E tm = f E tm'
  | .R f ft => ∀ tm tm' : T V, (∀ x ∈ op.operands.toList, AgreeAt tm tm' x) → (∀ g, f E tm g = f E tm' g) ∧ ft E tm = ft E tm'
  | .A f => ∀ tm tm' : T V, (∀ x ∈ op.operands.toList, AgreeAt tm tm' x) → f E tm = f E tm'
  | .X f => ∀ tm tm' : T V, (∀ x ∈ op.operands.toList, AgreeAt tm tm' x) → ∀ h, f E tm h = f E tm' h
  | .no => True

section
variable {E : Env}
theorem congr_move (x : Operand) : ClsCongr E (.move x) (cls E (.move x)) := fun tm tm' h => opdK_congr (h x (by simp [Op.operands])) _ _
theorem congr_bin (op : BinOp) (t : TypeId) (x y : Operand) (t' : TypeId) : ClsCongr E (.binOp op t x y t') (cls E (.binOp op t x y t')) := fun tm tm' h => by
  show opdK E x tm none (fun a => opdK E y tm none fun b => binop E op t x y a b) = opdK E x tm' none (fun a => opdK E y tm' none fun b => binop E op t x y a b)
  rw [opdK_congr (h x (by simp [Op.operands]))]
  congr 1
  funext a
  exact opdK_congr (h y (by simp [Op.operands])) _ _
end
end Go.Mx

namespace Go.Mx
section
variable {E : Env}
theorem congr2 {β : Type} {tm tm' : T V} {x y : Operand} {no : β} {k : V → V → β} (hx : AgreeAt tm tm' x) (hy : AgreeAt tm tm' y) :
    opdK E x tm no (fun a => opdK E y tm no fun b => k a b) = opdK E x tm' no (fun a => opdK E y tm' no fun b => k a b) := by
  rw [opdK_congr hx]
  congr 1
  funext a
  exact opdK_congr hy _ _
theorem congr3 {β : Type} {tm tm' : T V} {x y z : Operand} {no : β} {k : V → V → V → β} (hx : AgreeAt tm tm' x) (hy : AgreeAt tm tm' y) (hz : AgreeAt tm tm' z) :
    opdK E x tm no (fun a => opdK E y tm no fun b => opdK E z tm no fun c => k a b c) = opdK E x tm' no (fun a => opdK E y tm' no fun b => opdK E z tm' no fun c => k a b c) := by
  rw [opdK_congr hx]
  congr 1
  funext a
  exact congr2 hy hz

theorem cls_congr1 (op : Op) (ho : match op with | .convert .. | .call _ | .pick .. | .slice .. | .makeFunc .. | .makeMap .. | .build .. | .buildSlice .. => False | _ => True) : ClsCongr E op (cls E op) := by
  cases op with
  | move x => exact fun tm tm' h => opdK_congr (h x (by simp [Op.operands])) _ _
  | assign x => exact fun tm tm' h => opdK_congr (h x (by simp [Op.operands])) _ _
  | alloc t => exact fun tm tm' h => rfl
  | box t x => exact fun tm tm' h => opdK_congr (h x (by simp [Op.operands])) _ _
  | insert t m k x => exact fun tm tm' h hh => congr3 (h m (by simp [Op.operands])) (h k (by simp [Op.operands])) (h x (by simp [Op.operands]))
  | mapUpdate t m k x => exact fun tm tm' h hh => congr3 (h m (by simp [Op.operands])) (h k (by simp [Op.operands])) (h x (by simp [Op.operands]))
  | entryStore t m k x => exact fun tm tm' h hh => congr3 (h m (by simp [Op.operands])) (h k (by simp [Op.operands])) (h x (by simp [Op.operands]))
  | mapEntry t m k => exact fun tm tm' h hh => congr2 (h m (by simp [Op.operands])) (h k (by simp [Op.operands]))
  | load t x => exact fun tm tm' h => ⟨fun g => opdK_congr (h x (by simp [Op.operands])) _ _, opdK_congr (h x (by simp [Op.operands])) _ _⟩
  | lookup t x k ok => exact fun tm tm' h => ⟨fun g => congr2 (h x (by simp [Op.operands])) (h k (by simp [Op.operands])), opdK_congr (h x (by simp [Op.operands])) _ _⟩
  | store t x y => exact fun tm tm' h hh => congr2 (h x (by simp [Op.operands])) (h y (by simp [Op.operands]))
  | nilCheck x => exact fun tm tm' h => opdK_congr (h x (by simp [Op.operands])) _ _
  | binOp op t x y t' => exact fun tm tm' h => congr2 (h x (by simp [Op.operands])) (h y (by simp [Op.operands]))
  | unOp op t x => exact fun tm tm' h => opdK_congr (h x (by simp [Op.operands])) _ _
  | makeInterface t x => exact fun tm tm' h => opdK_congr (h x (by simp [Op.operands])) _ _
  | makeSlice t x y => exact fun tm tm' h => congr2 (h x (by simp [Op.operands])) (h y (by simp [Op.operands]))
  | fieldAddr t x f => exact fun tm tm' h => opdK_congr (h x (by simp [Op.operands])) _ _
  | field t x f => exact fun tm tm' h => opdK_congr (h x (by simp [Op.operands])) _ _
  | indexAddr t x y => exact fun tm tm' h => congr2 (h x (by simp [Op.operands])) (h y (by simp [Op.operands]))
  | index t x y => exact fun tm tm' h => congr2 (h x (by simp [Op.operands])) (h y (by simp [Op.operands]))
  | range t x => exact fun tm tm' h hh => opdK_congr (h x (by simp [Op.operands])) _ _
  | next x s => exact fun tm tm' h hh => opdK_congr (h x (by simp [Op.operands])) _ _
  | entry x => exact fun tm tm' h hh => opdK_congr (h x (by simp [Op.operands])) _ _
  | typeAssert x t t' ok => exact fun tm tm' h => opdK_congr (h x (by simp [Op.operands])) _ _
  | extract x i => exact fun tm tm' h => opdK_congr (h x (by simp [Op.operands])) _ _
  | panic x => exact fun tm tm' h hh => opdK_congr (h x (by simp [Op.operands])) _ _
  | convert => exact ho.elim
  | call => exact ho.elim
  | pick => exact ho.elim
  | slice => exact ho.elim
  | makeFunc => exact ho.elim
  | makeMap => exact ho.elim
  | build => exact ho.elim
  | buildSlice => exact ho.elim
  | _ => trivial
end
end Go.Mx

namespace Go.Mx
section
variable {E : Env}

theorem optV_congr {tm tm' : T V} {x : Option Operand} (h : ∀ y, x = some y → AgreeAt tm tm' y) : optV E x tm = optV E x tm' := by
  cases x with
  | none => rfl
  | some y => exact opdK_congr (h y rfl) _ _

theorem congr_convert (src dst : TypeId) (x : Operand) : ClsCongr E (.convert src dst x) (clsConvert E src dst x) := by
  unfold clsConvert
  split
  · exact fun tm tm' h hh => opdK_congr (h x (by simp [Op.operands])) _ _
  · split
    · exact fun tm tm' h => ⟨fun g => opdK_congr (h x (by simp [Op.operands])) _ _, opdK_congr (h x (by simp [Op.operands])) _ _⟩
    · trivial
  · exact fun tm tm' h hh => opdK_congr (h x (by simp [Op.operands])) _ _
  · exact fun tm tm' h hh => opdK_congr (h x (by simp [Op.operands])) _ _
  · exact fun tm tm' h hh => opdK_congr (h x (by simp [Op.operands])) _ _
  · trivial
  · trivial
  · exact fun tm tm' h => opdK_congr (h x (by simp [Op.operands])) _ _
  · trivial

theorem congr_call (c : Call) : ClsCongr E (.call c) (clsCall c) := by
  obtain ⟨callee, args, tys⟩ := c
  cases callee with
  | value f =>
    intro tm tm' h hh
    show xCall f args E tm hh = xCall f args E tm' hh
    unfold xCall
    rw [opdK_congr (h f (by simp [Op.operands, Call.operands]))]
    congr 1
    funext v
    exact opdsK_congr (fun y hy => h y (by simp only [Op.operands, Call.operands, Array.toList_append, List.mem_append]; exact .inr hy)) _ _
  | invoke r m => trivial
  | builtin b =>
    have ha : ∀ tm tm' : T V, (∀ x ∈ (Op.call ⟨.builtin b, args, tys⟩).operands.toList, AgreeAt tm tm' x) → ∀ x ∈ args.toList, AgreeAt tm tm' x := fun tm tm' h x hx => h x (by simp only [Op.operands, Call.operands, Array.toList_append, List.mem_append]; exact .inr hx)
    show ClsCongr E _ (clsBuiltin b tys args)
    unfold clsBuiltin
    split
    · split
      · rename_i x t hx ht
        exact fun tm tm' h => ⟨fun g => opdK_congr (ha tm tm' h x (by rw [hx]; simp)) _ _, opdK_congr (ha tm tm' h x (by rw [hx]; simp)) _ _⟩
      · trivial
    · exact fun tm tm' h hh => opdsK_congr (ha tm tm' h) _ _
    · exact fun tm tm' h hh => opdsK_congr (ha tm tm' h) _ _
    · exact fun tm tm' h => opdsK_congr (ha tm tm' h) _ _
    · exact fun tm tm' h => opdsK_congr (ha tm tm' h) _ _
    · exact fun tm tm' h hh => opdsK_congr (ha tm tm' h) _ _
    · exact fun tm tm' h hh => opdsK_congr (ha tm tm' h) _ _
    · trivial

theorem cls_congr (op : Op) : ClsCongr E op (cls E op) := by
  cases op with
  | convert s d x => exact congr_convert s d x
  | call c => exact congr_call c
  | pick c a b =>
    intro tm tm' h
    show opdK E c tm none (fun v => v.boolK none fun t => Bool.rec (opdK E b tm none some) (opdK E a tm none some) t) = opdK E c tm' none (fun v => v.boolK none fun t => Bool.rec (opdK E b tm' none some) (opdK E a tm' none some) t)
    rw [opdK_congr (h c (by simp [Op.operands])), opdK_congr (h a (by simp [Op.operands])), opdK_congr (h b (by simp [Op.operands]))]
  | slice t x lo hi mx =>
    intro tm tm' h
    show opdK E x tm none (fun v => match optV E lo tm, optV E hi tm, optV E mx tm with
      | some lo, some hi, some mx => sliceOp E t v lo hi mx
      | _, _, _ => none) = opdK E x tm' none (fun v => match optV E lo tm', optV E hi tm', optV E mx tm' with
      | some lo, some hi, some mx => sliceOp E t v lo hi mx
      | _, _, _ => none)
    rw [opdK_congr (h x (by simp [Op.operands])), optV_congr fun y hy => h y (by simp [Op.operands, hy]), optV_congr fun y hy => h y (by simp [Op.operands, hy]), optV_congr fun y hy => h y (by simp [Op.operands, hy])]
  | makeFunc fn a c =>
    intro tm tm' h
    show pMkFunc fn a c E tm = pMkFunc fn a c E tm'
    unfold pMkFunc
    cases fn with
    | func f =>
      simp only
      rw [opdsK_congr fun y hy => h y (by simp only [Op.operands, Array.toList_append, List.mem_append]; exact .inl hy)]
      congr 1
      funext l
      exact opdsK_congr (fun y hy => h y (by simp only [Op.operands, Array.toList_append, List.mem_append]; exact .inr hy)) _ _
    | _ => rfl
  | makeMap t r =>
    intro tm tm' h
    cases r with
    | none => rfl
    | some x => exact opdK_congr (h x (by simp [Op.operands])) _ _
  | build t ps => exact fun tm tm' h => partsK_congr (fun y hy => h y.2 (by simp only [Op.operands, List.mem_map]; exact ⟨y, hy, rfl⟩)) _ _
  | buildSlice t n ps => exact fun tm tm' h => partsK_congr (fun y hy => h y.2 (by simp only [Op.operands, List.mem_map]; exact ⟨y, hy, rfl⟩)) _ _
  | _ => exact cls_congr1 _ trivial
end
end Go.Mx

