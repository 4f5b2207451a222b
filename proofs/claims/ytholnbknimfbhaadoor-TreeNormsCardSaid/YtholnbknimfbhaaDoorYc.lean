/-
  An evaluator for loaded Go code and its proof, the third part; no conditions.
-/
import Derived.Test.YtholnbknimfbhaaDoorYb
import Derived.OrdersIn
import Derived.ChangeSame
import Derived.Below
import Derived.ChangeVars
import Derived.RowKitTokens
set_option linter.unusedVariables false
namespace Go.Fy
open Go.RowKit

/-- The temporaries that an operation looks at. -/
def tmpOf : Operand → Option Nat
  | .tmp t => some t
  | _ => none
def looks (all : List Oper) (o : Oper) : List Nat :=
  o.op.operands.toList.filterMap tmpOf ++ (match o.guard with | some (j, _) => ((all[j]?).bind (·.dst)).toList | none => [])
def notIn (d : Option Nat) (l : List Nat) : Bool := match d with
  | some d => !l.contains d
  | none => true
def unlike (a b : Option Nat) : Bool := match a, b with
  | some a, some b => a != b
  | _, _ => true
/-- May two operations change places? -/
def commOk (E : Env) (all : List Oper) (p i : Oper) : Bool :=
  notIn p.dst (looks all i) && notIn i.dst (looks all p) && unlike p.dst i.dst && (isFree p.op || isFree i.op || (isQ E p.op && isQ E i.op))

section
variable {E : Env} {ρ : Type} {r : ρ} {orc : Orc ρ}

theorem evOp_congr {o : Oper} {ts ts' : List PV} (h : ∀ x ∈ o.op.operands.toList, opd E ts x = opd E ts' x) (hp : List Blk) (K KP : KV ρ) : evOp E orc ts hp o K KP = evOp E orc ts' hp o K KP := by
  unfold evOp
  simp only
  cases hop : o.op <;> simp only [hop, Op.operands] at h ⊢
  case move x => rw [h x (by simp)]
  case assign x => rw [h x (by simp)]
  case pick a b c => rw [h a (by simp), h b (by simp), h c (by simp)]
  case box t x => rw [h x (by simp)]
  case build t ps =>
    have e : parts E ts ps = parts E ts' ps := by
      unfold parts
      exact List.map_congr_left fun p hp => by rw [h p.2 (by simp only [List.mem_map]; exact ⟨p, hp, rfl⟩)]
    rw [e]
  case buildSlice t n ps =>
    have e : parts E ts ps = parts E ts' ps := by
      unfold parts
      exact List.map_congr_left fun p hp => by rw [h p.2 (by simp only [List.mem_map]; exact ⟨p, hp, rfl⟩)]
    rw [e]
  case load t x => rw [h x (by simp)]
  case store t x y => rw [h x (by simp), h y (by simp)]
  case nilCheck x => rw [h x (by simp)]
  case binOp op t x y yt => rw [h x (by simp), h y (by simp)]
  case unOp op t x => rw [h x (by simp)]
  case convert s d x => rw [h x (by simp)]
  case makeInterface t x => rw [h x (by simp)]
  case makeFunc f first caps =>
    have e : caps.toList.map (opd E ts) = caps.toList.map (opd E ts') := List.map_congr_left fun x hx => h x (by simp at hx ⊢; exact .inr hx)
    cases f <;> simp only [e]
  case makeSlice t x y => rw [h x (by simp), h y (by simp)]
  case slice t x lo hi mx =>
    have hx := h x (by simp)
    have e : ∀ y : Option Operand, (∀ z, y = some z → opd E ts z = opd E ts' z) → (match y with | none => some none | some a => (pvInt (opd E ts a)).map some) = (match y with | none => (some none : Option (Option Int)) | some a => (pvInt (opd E ts' a)).map some) := by
      intro y hy
      cases y with
      | none => rfl
      | some z => simp only [hy z rfl]
    have e1 := e lo (fun z hz => h z (by simp [hz]))
    have e2 := e hi (fun z hz => h z (by simp [hz]))
    cases mx with
    | some m => rfl
    | none =>
      simp only [hx]
      cases lo <;> cases hi <;> simp only at e1 e2 ⊢ <;> simp only [e1, e2]
  case fieldAddr t x f => rw [h x (by simp)]
  case field t x f => rw [h x (by simp)]
  case indexAddr t x i => rw [h x (by simp), h i (by simp)]
  case index t x i => rw [h x (by simp), h i (by simp)]
  case extract t i => rw [h t (by simp)]
  case typeAssert x xt as ok => rw [h x (by simp)]
  case range t x => rw [h x (by simp)]
  case next x b => cases b <;> first | rfl | (simp only; rw [h x (by simp)])
  case panic x => rw [h x (by simp)]
  case call c =>
    have e : c.args.toList.map (opd E ts) = c.args.toList.map (opd E ts') := List.map_congr_left fun x hx => h x (by simp [Call.operands] at hx ⊢; exact .inr hx)
    rw [e]
    cases hc : c.callee with
    | value f =>
      have := h f (by simp [Call.operands, hc])
      simp only [this]
    | builtin b => rfl
    | invoke a b => rfl

theorem getD_putT {ts : List PV} {d : Option Nat} {v : PV} {t : Nat} (h : ∀ x, d = some x → x ≠ t) : (putT ts d v).getD t .un = ts.getD t .un := by
  cases d with
  | none => rfl
  | some x => simp only [putT]; rw [List.getD_eq_getElem?_getD, List.getElem?_set_ne (h x rfl), ← List.getD_eq_getElem?_getD]

theorem notIn_spec {d : Option Nat} {l : List Nat} (h : notIn d l = true) : ∀ x, d = some x → x ∉ l := by
  intro x hx
  subst hx
  simpa [notIn] using h

theorem opd_putT {ts : List PV} {d : Option Nat} {v : PV} {x : Operand} (h : ∀ t, x = .tmp t → d ≠ some t) : opd E (putT ts d v) x = opd E ts x := by
  cases x with
  | tmp t => exact getD_putT fun y hy => by intro e; subst e; exact h y rfl hy
  | _ => rfl

/-- Is an operation's guard met? -/
def wantA (all : List Oper) (ts : List PV) (o : Oper) : Option Bool := match o.guard with
  | none => some true
  | some (j, want) => match (all[j]?).bind (·.dst) with
    | none => none
    | some t => match ts.getD t .un with
      | .d .bool b => some (b == want)
      | .tu [] => some false
      | _ => none

theorem set_same {ts : List PV} {t : Nat} {p : PV} (h : ts.getD t .un = p) : ts.set t p = ts := by
  by_cases hl : t < ts.length
  · apply List.ext_getElem?
    intro i
    by_cases hi : t = i
    · subst hi
      rw [List.getElem?_set_self hl]
      rw [List.getD_eq_getElem?_getD, List.getElem?_eq_getElem hl] at h
      rw [List.getElem?_eq_getElem hl, ← h]
      rfl
    · rw [List.getElem?_set_ne hi]
  · exact List.set_eq_of_length_le (by omega)

theorem evG_eq {all : List Oper} {ts : List PV} {h : List Blk} {o : Oper} {K : List PV → List Blk → List Nat → Option ρ} {KP : KV ρ} : evG E orc all ts h o K KP =
    match wantA all ts o with
    | none => none
    | some true => evOp E orc ts h o (fun v h' lg => K (putT ts o.dst v) h' lg) KP
    | some false => K (putT ts o.dst (.tu [])) h [] := by
  unfold evG wantA
  simp only
  cases hg : o.guard with
  | none => rfl
  | some p =>
    obtain ⟨j, want⟩ := p
    simp only
    cases ht : (all[j]?).bind (·.dst) with
    | none => rfl
    | some t =>
      simp only
      cases hp : ts.getD t .un with
      | d τ x =>
        cases τ with
        | bool =>
          have e : ts.set t (.d .bool x) = ts := set_same hp
          cases x <;> cases want <;> simp only [cond_true, cond_false, e] <;> rfl
        | _ => rfl
      | tu us => cases us <;> rfl
      | _ => rfl

theorem wantA_putT {all : List Oper} {ts : List PV} {o : Oper} {d : Option Nat} {v : PV} (h : notIn d (looks all o) = true) : wantA all (putT ts d v) o = wantA all ts o := by
  have hs := notIn_spec h
  unfold wantA
  split
  · rfl
  · rename_i j want hg
    split
    · rfl
    · rename_i t ht
      rw [getD_putT fun x hx => by
        intro e
        subst e
        exact hs x hx (by simp [looks, hg, ht])]

theorem evOp_putT {all : List Oper} {ts : List PV} {o : Oper} {d : Option Nat} {v : PV} (h : notIn d (looks all o) = true) (hp : List Blk) (K KP : KV ρ) : evOp E orc (putT ts d v) hp o K KP = evOp E orc ts hp o K KP := by
  have hs := notIn_spec h
  refine evOp_congr (fun x hx => opd_putT fun t ht hd => hs t hd ?_) hp K KP
  subst ht
  simp only [looks, List.mem_append, List.mem_filterMap]
  exact .inl ⟨_, hx, rfl⟩

theorem putT_comm {ts : List PV} {a b : Option Nat} {v w : PV} (h : unlike a b = true) : putT (putT ts a v) b w = putT (putT ts b w) a v := by
  cases a <;> cases b <;> simp only [putT]
  rename_i x y
  simp only [unlike, bne_iff_ne, ne_eq] at h
  exact List.set_comm _ _ h

theorem unlike_symm {a b : Option Nat} (h : unlike a b = true) : unlike b a = true := by
  cases a <;> cases b <;> simp_all [unlike]
  omega

/-- What is put ahead may be put behind. -/
theorem evG_putT {all : List Oper} {ts : List PV} {h : List Blk} {o : Oper} {d : Option Nat} {w : PV} (hl : notIn d (looks all o) = true) (hu : unlike d o.dst = true) {K : List PV → List Blk → List Nat → Option ρ} {KP : KV ρ} :
    evG E orc all (putT ts d w) h o K KP = evG E orc all ts h o (fun ts' h' lg => K (putT ts' d w) h' lg) KP := by
  rw [evG_eq, evG_eq, wantA_putT hl]
  split
  · rfl
  · rw [evOp_putT hl]
    congr 1
    funext v h' lg
    rw [putT_comm hu]
  · rw [putT_comm hu]

theorem evG_congr {all : List Oper} {ts : List PV} {h : List Blk} {o : Oper} {K K' : List PV → List Blk → List Nat → Option ρ} {KP : KV ρ} (hk : ∀ v h' lg, K (putT ts o.dst v) h' lg = K' (putT ts o.dst v) h' lg) :
    evG E orc all ts h o K KP = evG E orc all ts h o K' KP := by
  rw [evG_eq, evG_eq]
  split
  · rfl
  · congr 1
    funext v h' lg
    exact hk v h' lg
  · exact hk _ _ _

/-- An operation's one value. -/
def GV (E : Env) (orc : Orc ρ) (all : List Oper) (ts : List PV) (h : List Blk) (o : Oper) (v : PV) : Prop :=
  ∀ K : List PV → List Blk → List Nat → Option ρ, evG E orc all ts h o K nKV = K (putT ts o.dst v) h []

theorem free_G {all : List Oper} {ts : List PV} {h : List Blk} {o : Oper} (hq : isFree o.op = true) {K : List PV → List Blk → List Nat → Option ρ} (he : evG E orc all ts h o K nKV = some r) :
    ∃ v, ∀ ts' h', (∃ d w, (ts' = putT ts d w ∨ ts = putT ts' d w) ∧ notIn d (looks all o) = true) → GV E orc all ts' h' o v := by
  rw [evG_eq] at he
  have hcase : ∀ {ts' : List PV}, (∃ d w, (ts' = putT ts d w ∨ ts = putT ts' d w) ∧ notIn d (looks all o) = true) → wantA all ts' o = wantA all ts o ∧ ∀ hp (K KP : KV ρ), evOp E orc ts' hp o K KP = evOp E orc ts hp o K KP := by
    rintro ts' ⟨d, w, e | e, hd⟩
    · subst e; exact ⟨wantA_putT hd, fun hp K KP => evOp_putT hd hp K KP⟩
    · subst e; exact ⟨(wantA_putT hd).symm, fun hp K KP => (evOp_putT hd hp K KP).symm⟩
  split at he
  · cases he
  · rename_i hw
    obtain ⟨v, _, hv⟩ := free_val hq he
    refine ⟨v, fun ts' h' ht K' => ?_⟩
    obtain ⟨e1, e2⟩ := hcase ht
    rw [evG_eq, e1, hw]
    simp only
    rw [e2]
    exact hv h' _
  · rename_i hw
    refine ⟨.tu [], fun ts' h' ht K' => ?_⟩
    obtain ⟨e1, e2⟩ := hcase ht
    rw [evG_eq, e1, hw]

theorem quiet_G {all : List Oper} {ts : List PV} {h : List Blk} {o : Oper} (hq : isQ E o.op = true) {K : List PV → List Blk → List Nat → Option ρ} (he : evG E orc all ts h o K nKV = some r) :
    ∃ v, ∀ ts', (∃ d w, (ts' = putT ts d w ∨ ts = putT ts' d w) ∧ notIn d (looks all o) = true) → GV E orc all ts' h o v := by
  rw [evG_eq] at he
  have hcase : ∀ {ts' : List PV}, (∃ d w, (ts' = putT ts d w ∨ ts = putT ts' d w) ∧ notIn d (looks all o) = true) → wantA all ts' o = wantA all ts o ∧ ∀ hp (K KP : KV ρ), evOp E orc ts' hp o K KP = evOp E orc ts hp o K KP := by
    rintro ts' ⟨d, w, e | e, hd⟩
    · subst e; exact ⟨wantA_putT hd, fun hp K KP => evOp_putT hd hp K KP⟩
    · subst e; exact ⟨(wantA_putT hd).symm, fun hp K KP => (evOp_putT hd hp K KP).symm⟩
  split at he
  · cases he
  · rename_i hw
    obtain ⟨v, _, hv⟩ := quiet_val hq he
    refine ⟨v, fun ts' ht K' => ?_⟩
    obtain ⟨e1, e2⟩ := hcase ht
    rw [evG_eq, e1, hw]
    simp only
    rw [e2]
    exact hv _
  · rename_i hw
    refine ⟨.tu [], fun ts' ht K' => ?_⟩
    obtain ⟨e1, e2⟩ := hcase ht
    rw [evG_eq, e1, hw]

theorem putT_putT {ts : List PV} {d : Option Nat} {v w : PV} : putT (putT ts d v) d w = putT ts d w := by
  cases d with
  | none => rfl
  | some t => simp only [putT, List.set_set]

theorem notIn_none (l : List Nat) : notIn none l = true := rfl

/-- Two neighbours change places. -/
theorem swap (hX : OrcX orc) {all : List Oper} {o1 o2 : Oper} (hc : commOk E all o1 o2 = true) {ts : List PV} {h : List Blk} {K : List PV → List Blk → Option ρ}
    (he : evG E orc all ts h o1 (fun ts1 h1 _ => evG E orc all ts1 h1 o2 (fun ts2 h2 _ => K ts2 h2) nKV) nKV = some r) :
    evG E orc all ts h o2 (fun ts2 h2 _ => evG E orc all ts2 h2 o1 (fun ts1 h1 _ => K ts1 h1) nKV) nKV = some r := by
  simp only [commOk, Bool.and_eq_true, Bool.or_eq_true] at hc
  obtain ⟨⟨⟨h1, h2⟩, hu⟩, hcl⟩ := hc
  have hid : ∀ (ts : List PV) (o : Oper), ∃ d w, (ts = putT ts d w ∨ ts = putT ts d w) ∧ notIn d (looks all o) = true := fun ts o => ⟨none, .un, .inl rfl, rfl⟩
  rcases hcl with (hf | hf) | ⟨hq1, hq2⟩
  · -- the first is free
    obtain ⟨v1, hv1⟩ := free_G hf he
    rw [hv1 ts h (hid ts o1), evG_putT h1 hu] at he
    rw [← he]
    refine evG_congr fun v h' lg => ?_
    rw [hv1 (putT ts o2.dst v) h' ⟨_, _, .inl rfl, h2⟩]
  · -- the second is free
    have he0 := he
    rw [evG_eq] at he
    have hex : ∃ v h', evG E orc all (putT ts o1.dst v) h' o2 (fun ts2 h2 _ => K ts2 h2) nKV = some r := by
      split at he
      · cases he
      · rcases evOp_x hX he with ⟨v, h', lg, hk, _⟩ | ⟨_, _, _, hk, _⟩
        · exact ⟨v, h', hk⟩
        · cases hk
      · exact ⟨_, _, he⟩
    obtain ⟨v, h', hk⟩ := hex
    obtain ⟨v2, hv2⟩ := free_G hf hk
    rw [hv2 ts h ⟨_, _, .inr rfl, h1⟩, evG_putT h2 (unlike_symm hu), ← he0]
    refine evG_congr fun v' h'' lg => ?_
    rw [hv2 (putT ts o1.dst v') h'' ⟨o1.dst, v', .inl putT_putT.symm, h1⟩]
  · obtain ⟨v1, hv1⟩ := quiet_G hq1 he
    rw [hv1 ts (hid ts o1)] at he
    obtain ⟨v2, hv2⟩ := quiet_G hq2 he
    rw [hv2 _ (hid _ o2)] at he
    rw [hv2 ts ⟨_, _, .inr rfl, h1⟩, hv1 _ ⟨_, _, .inl rfl, h2⟩, ← he, putT_comm (unlike_symm hu)]

end
end Go.Fy

set_option linter.unusedVariables false
namespace Go.Fy
open Go.RowKit

section
variable {E : Env} {ρ : Type} {r : ρ} {orc : Orc ρ}

theorem evLoop_x {f : St → (Ex → St → Option ρ) → Option ρ} (hf : ∀ σ (K : Ex → St → Option ρ), f σ K = some r → ∃ x σ', K x σ' = some r ∧ ∀ K', f σ K' = K' x σ') {gc : St → St} :
    ∀ (m : Nat) (σ : St) (K : Ex → St → Option ρ), evLoop f gc m σ K = some r → ∃ x σ', K x σ' = some r ∧ ∀ K', evLoop f gc m σ K' = K' x σ'
  | 0, σ, K, he => by simp [evLoop] at he
  | m + 1, σ, K, he => by
    rw [evLoop] at he
    obtain ⟨x, σ', h1, h2⟩ := hf _ _ he
    cases x with
    | normal =>
      obtain ⟨y, σ'', h3, h4⟩ := evLoop_x hf m _ _ h1
      exact ⟨y, σ'', h3, fun K' => by rw [evLoop, h2]; exact h4 K'⟩
    | exit i => exact ⟨_, _, h1, fun K' => by rw [evLoop, h2]⟩
    | goto i => exact ⟨_, _, h1, fun K' => by rw [evLoop, h2]⟩
    | ret => exact ⟨_, _, h1, fun K' => by rw [evLoop, h2]⟩
    | panic v => exact ⟨_, _, h1, fun K' => by rw [evLoop, h2]⟩

theorem evCode_x (hX : OrcX orc) {inR : Bool} {fno : Nat} {k : Nat} : ∀ (b : Code) (σ : St) (K : Ex → St → Option ρ), evCode E orc inR fno k b σ K = some r →
    ∃ x σ', K x σ' = some r ∧ ∀ K', evCode E orc inR fno k b σ K' = K' x σ'
  | .skip, σ, K, he => ⟨_, _, by rw [evCode] at he; exact he, fun K' => by rw [evCode]⟩
  | .label _, σ, K, he => ⟨_, _, by rw [evCode] at he; exact he, fun K' => by rw [evCode]⟩
  | .exit _, σ, K, he => ⟨_, _, by rw [evCode] at he; exact he, fun K' => by rw [evCode]⟩
  | .goto _, σ, K, he => ⟨_, _, by rw [evCode] at he; exact he, fun K' => by rw [evCode]⟩
  | .ret, σ, K, he => ⟨_, _, by rw [evCode] at he; exact he, fun K' => by rw [evCode]⟩
  | .region id ops true, σ, K, he => by
    rw [evCode] at he
    split at he
    · rename_i q hq
      exact ⟨_, _, he, fun K' => by rw [evCode, hq]⟩
    · rename_i hq
      obtain ⟨hb, he⟩ := bif_some he
      rcases evOps_x hX _ he with ⟨ts', h', h1, h2⟩ | ⟨_, _, h1, _⟩
      · exact ⟨_, _, h1, fun K' => by rw [evCode, hq, hb]; simp only [cond_true]; rw [h2]⟩
      · cases h1
  | .region id ops false, σ, K, he => by
    rw [evCode] at he
    rcases evOps_x hX _ he with ⟨ts', h', h1, h2⟩ | ⟨_, _, h1, h2⟩
    · exact ⟨_, _, h1, fun K' => by rw [evCode, h2]⟩
    · exact ⟨_, _, h1, fun K' => by rw [evCode, h2]⟩
  | .seq x y, σ, K, he => by
    rw [evCode] at he
    obtain ⟨e, σ', h1, h2⟩ := evCode_x hX x _ _ he
    cases e with
    | normal =>
      obtain ⟨e', σ'', h3, h4⟩ := evCode_x hX y _ _ h1
      exact ⟨_, _, h3, fun K' => by rw [evCode, h2]; exact h4 K'⟩
    | exit i => exact ⟨_, _, h1, fun K' => by rw [evCode, h2]⟩
    | goto i => exact ⟨_, _, h1, fun K' => by rw [evCode, h2]⟩
    | ret => exact ⟨_, _, h1, fun K' => by rw [evCode, h2]⟩
    | panic v => exact ⟨_, _, h1, fun K' => by rw [evCode, h2]⟩
  | .cond c x y, σ, K, he => by
    rw [evCode] at he
    split at he
    · rename_i t ht
      cases t with
      | true =>
        obtain ⟨e', σ'', h3, h4⟩ := evCode_x hX x _ _ he
        exact ⟨_, _, h3, fun K' => by rw [evCode, ht]; exact h4 K'⟩
      | false =>
        obtain ⟨e', σ'', h3, h4⟩ := evCode_x hX y _ _ he
        exact ⟨_, _, h3, fun K' => by rw [evCode, ht]; exact h4 K'⟩
    · cases he
  | .block id x, σ, K, he => by
    rw [evCode] at he
    obtain ⟨e, σ', h1, h2⟩ := evCode_x hX x _ _ he
    cases e with
    | normal => exact ⟨_, _, h1, fun K' => by rw [evCode, h2]⟩
    | exit i =>
      simp only at h1
      split at h1
      · rename_i hi; exact ⟨_, _, h1, fun K' => by rw [evCode, h2]; simp only; rw [if_pos hi]⟩
      · rename_i hi; exact ⟨_, _, h1, fun K' => by rw [evCode, h2]; simp only; rw [if_neg hi]⟩
    | goto i => exact ⟨_, _, h1, fun K' => by rw [evCode, h2]⟩
    | ret => exact ⟨_, _, h1, fun K' => by rw [evCode, h2]⟩
    | panic v => exact ⟨_, _, h1, fun K' => by rw [evCode, h2]⟩
  | .loop x, σ, K, he => by
    rw [evCode] at he
    obtain ⟨e, σ', h1, h2⟩ := evLoop_x (fun σ K h => evCode_x hX x σ K h) k _ _ he
    exact ⟨e, _, h1, fun K' => by rw [evCode]; exact h2 _⟩
  | .rangeFunc g ps x y, σ, K, he => by
    rw [evCode] at he
    cases inR with
    | true => simp at he
    | false =>
      simp only [cond_false] at he
      split at he
      · rename_i f caps hf
        obtain ⟨out, h2, lg, h1, h3⟩ := hX.call _ _ _ _ _ he
        split at h1
        · rename_i la hla
          cases out with
          | pan v => exact ⟨_, _, h1, fun K' => by rw [evCode]; simp only [cond_false, hf]; rw [h3]; simp only [hla]⟩
          | ret v =>
            simp only at h1
            split at h1
            · cases h1
            · rename_i hnb
              split at h1
              · rename_i hp; exact ⟨_, _, h1, fun K' => by rw [evCode]; simp only [cond_false, hf]; rw [h3]; simp only [hla]; cases hst : la.state <;> simp_all⟩
              · rename_i hp; exact ⟨_, _, h1, fun K' => by rw [evCode]; simp only [cond_false, hf]; rw [h3]; simp only [hla]; cases hst : la.state <;> simp_all⟩
              · rename_i hp; exact ⟨_, _, h1, fun K' => by rw [evCode]; simp only [cond_false, hf]; rw [h3]; simp only [hla]; cases hst : la.state <;> simp_all⟩
              · cases h1
        · cases h1
      · cases he
  | .scope x, σ, K, he => by
    rw [evCode] at he
    obtain ⟨e, σ', h1, h2⟩ := evCode_x hX x _ _ he
    cases e with
    | normal => exact ⟨_, _, h1, fun K' => by rw [evCode, h2]⟩
    | exit i => exact ⟨_, _, h1, fun K' => by rw [evCode, h2]⟩
    | goto i => cases h1
    | ret => exact ⟨_, _, h1, fun K' => by rw [evCode, h2]⟩
    | panic v => exact ⟨_, _, h1, fun K' => by rw [evCode, h2]⟩

end
end Go.Fy

set_option linter.unusedVariables false
namespace Go.Fy
open Go.RowKit

section
variable {E : Env} {ρ : Type} {r : ρ} {orc : Orc ρ}

theorem evFn_x (hX : OrcX orc) {k f : Nat} {as : List PV} {h : List Blk} {K : KO ρ} (he : evFn E orc k f as h K = some r) : ∃ out h' lg, K out h' lg = some r ∧ ∀ K', evFn E orc k f as h K' = K' out h' lg := by
  unfold evFn at he ⊢
  split at he
  · cases he
  · rename_i fn hfn
    simp only
    split at he
    · cases he
    · rename_i b hb
      obtain ⟨x, σ', h1, h2⟩ := evCode_x hX _ _ _ he
      split at h1
      · cases h1
      · rename_i h' hs
        cases x with
        | normal =>
          simp only at h1
          split at h1
          · rename_i vs hv; exact ⟨_, _, _, h1, fun K' => by rw [h2]; simp only [hs, hv]⟩
          · cases h1
        | ret =>
          simp only at h1
          split at h1
          · rename_i vs hv; exact ⟨_, _, _, h1, fun K' => by rw [h2]; simp only [hs, hv]⟩
          · cases h1
        | panic v => exact ⟨_, _, _, h1, fun K' => by rw [h2]; simp only [hs]⟩
        | exit i => cases h1
        | goto i => cases h1

theorem evRound_x (hX : OrcX orc) {k l : Nat} {as : List PV} {h : List Blk} {K : KO ρ} (he : evRound E orc k l as h K = some r) : ∃ out h' lg, K out h' lg = some r ∧ ∀ K', evRound E orc k l as h K' = K' out h' lg := by
  unfold evRound at he ⊢
  split at he
  · rename_i la hla
    simp only
    split at he
    · rename_i hc
      simp only [hc, and_self, if_true]
      obtain ⟨x, σ', h1, h2⟩ := evCode_x hX _ _ _ he
      cases x with
      | normal =>
        simp only at h1
        split at h1
        · rename_i r1 hr1
          split at h1
          · rename_i hst
            obtain ⟨x2, σ2, h3, h4⟩ := evCode_x hX _ _ _ h1
            split at h3
            · rename_i r2 hr2
              cases x2 with
              | normal => exact ⟨_, _, _, h3, fun K' => by rw [h2]; simp only [hr1, hst]; rw [h4]; simp only [hr2]⟩
              | ret => exact ⟨_, _, _, h3, fun K' => by rw [h2]; simp only [hr1, hst]; rw [h4]; simp only [hr2]⟩
              | exit i => exact ⟨_, _, _, h3, fun K' => by rw [h2]; simp only [hr1, hst]; rw [h4]; simp only [hr2]⟩
              | goto i => cases h3
              | panic v => cases h3
            · cases h3
          · cases h1
        · cases h1
      | exit i => cases h1
      | goto i => cases h1
      | ret => cases h1
      | panic v => cases h1
    · cases he
  · cases he

theorem orcN_x (E : Env) (k : Nat) : ∀ d, OrcX (orcN (ρ := ρ) E k d)
  | 0 => ⟨fun f as h K r he => by simp [orcN] at he, fun f as h K r he => by simp [orcN] at he⟩
  | d + 1 => ⟨fun f as h K r he => evFn_x (orcN_x E k d) he, fun f as h K r he => evRound_x (orcN_x E k d) he⟩

theorem evOps_mono (hX : OrcX orc) {all l : List Oper} {ts : List PV} {h : List Blk} {lg : List Nat} {K K' : List PV → List Blk → List Nat → Option ρ} (he : evOps E orc all l ts h lg K nKV = some r)
    (hk : ∀ ts' h', K ts' h' lg = some r → K' ts' h' lg = some r) : evOps E orc all l ts h lg K' nKV = some r := by
  rcases evOps_x hX l he with ⟨ts', h', h1, h2⟩ | ⟨_, _, h1, _⟩
  · rw [h2]; exact hk _ _ h1
  · cases h1

theorem evOps_append {all : List Oper} : ∀ (l m : List Oper) {ts : List PV} {h : List Blk} {lg : List Nat} {K : List PV → List Blk → List Nat → Option ρ},
    evOps E orc all (l ++ m) ts h lg K nKV = evOps E orc all l ts h lg (fun ts' h' lg' => evOps E orc all m ts' h' lg' K nKV) nKV
  | [], m, ts, h, lg, K => rfl
  | o :: l, m, ts, h, lg, K => by
    rw [List.cons_append, evOps, evOps]
    congr 1
    funext ts' h' _
    exact evOps_append l m

theorem evOps_two {all : List Oper} (o1 o2 : Oper) (l : List Oper) {ts : List PV} {h : List Blk} {lg : List Nat} {K : List PV → List Blk → List Nat → Option ρ} :
    evOps E orc all (o1 :: o2 :: l) ts h lg K nKV = evG E orc all ts h o1 (fun ts1 h1 _ => evG E orc all ts1 h1 o2 (fun ts2 h2 _ => (fun ts2 h2 => evOps E orc all l ts2 h2 lg K nKV) ts2 h2) nKV) nKV := rfl

/-- An operation goes to the front. -/
theorem move_front (hX : OrcX orc) {all : List Oper} {o : Oper} : ∀ (pre post : List Oper) {ts : List PV} {h : List Blk} {lg : List Nat} {K : List PV → List Blk → List Nat → Option ρ}, (∀ p ∈ pre, commOk E all p o = true) →
    evOps E orc all (pre ++ o :: post) ts h lg K nKV = some r → evOps E orc all (o :: (pre ++ post)) ts h lg K nKV = some r
  | [], post, ts, h, lg, K, _, he => he
  | p :: pre, post, ts, h, lg, K, hc, he => by
    have h1 : evOps E orc all [p] ts h lg (fun ts' h' lg' => evOps E orc all (pre ++ o :: post) ts' h' lg' K nKV) nKV = some r := by
      rw [← evOps_append [p] (pre ++ o :: post)]
      exact he
    have h2 : evOps E orc all [p] ts h lg (fun ts' h' lg' => evOps E orc all (o :: (pre ++ post)) ts' h' lg' K nKV) nKV = some r :=
      evOps_mono hX h1 fun ts' h' hk => move_front hX pre post (fun q hq => hc q (by simp [hq])) hk
    rw [← evOps_append [p] (o :: (pre ++ post))] at h2
    have h3 : evOps E orc all (p :: o :: (pre ++ post)) ts h lg K nKV = some r := h2
    rw [evOps_two] at h3
    have h4 := swap hX (hc p (by simp)) h3
    exact h4

/-- The targets that bind in every way of reading. -/
def edgesOf (o : Oper) : List Nat := (o.after.toList.filter (Region.binds .any ·)).map (·.on)

/-- A region that may be read as text. -/
def regOk (E : Env) (ops : Array Oper) : Bool :=
  (List.range ops.size).all fun i => match ops.toList[i]? with
    | none => true
    | some o => (o.after.toList.all fun e => decide (e.on < i)) && (List.range i).all fun p =>
      bif ((Region.before ops).getD i 0).testBit p then (edgesOf o).any (fun q => q == p || (decide (p < q) && ((Region.before ops).getD q 0).testBit p))
      else match ops.toList[p]? with
        | some op => commOk E ops.toList op o
        | none => false

end

section
variable {P : Program} {E : Env} {c : Cx} {w0 : World} {ok0 : Nat → Prop} {ρ : Type} {r : ρ} {orc : Orc ρ} {ro : Option Nat} {n : Nat} {Q : Exit → Act → World → Prop} {a : Act}

/-- One operation of a region. -/
theorem stepOp_sound (hE : EnvOk P E) (hO : OrcOk P w0 ok0 orc) (hg0 : GOk E w0 ok0) {ops : Array Oper} {ds : List Deferred} {o : Oper} {i : Nat} (hi : ops[i]? = some o) {ts : List PV}
    {K : List PV → List Blk → List Nat → Option ρ} (he : evG E orc ops.toList ts c.H o K nKV = some r) (hr : Rel w0 c) (h0 : c.ok0 = ok0) (ht : TS c ts a.tmps) (hd : a.defers = ds) {next : Act → World → Prop}
    (hK : ∀ c' ts' a' lg', Mv w0 c c' → TS c' ts' a'.tmps → a'.defers = ds → K ts' c'.H lg' = some r → next a' c'.w) : wpOpIn (W ro) n P ops Q i next a c.w := by
  have hg : GOk E c.w c.ok := hg0.keeps (h0 ▸ rel_keeps hr)
  unfold wpOpIn
  simp only [hi]
  rw [evG_eq] at he
  have hy : ∀ b, wantA ops.toList ts o = some b → Region.wanted o (yielded ops a.tmps) = b := by
    intro b hb
    unfold wantA at hb
    split at hb
    · rename_i hgd; injection hb with hb; subst hb; simp [Region.wanted, hgd]
    · rename_i j want hgd
      split at hb
      · cases hb
      · rename_i t hj
        split at hb
        · rename_i x hx
          injection hb with hb
          have hv : a.tmps.getD t undef = .bool x := by
            have := ht.2 t
            rw [hx, VR] at this
            exact dBool_inv this
          have := yielded_of hj hv
          rw [← hb]
          simp [Region.wanted, hgd, this]
        · rename_i hx
          injection hb with hb
          rw [← hb]
          simp [Region.wanted, hgd, yielded_none hj ht hx]
        · cases hb
  split at he
  · cases he
  · rename_i hw
    rw [if_pos (hy true hw)]
    refine evOp_sound hE hO hr h0 hg ht he ?_ ?_
    · intro c' v val lg' hm hv hk
      exact hK c' _ _ lg' hm ((ht.ext hm.ext).put o.dst hv) (by cases o.dst <;> exact hd) hk
    · intro c' v val lg' hm hv hk
      cases hk
  · rename_i hw
    rw [if_neg (by rw [hy false hw]; simp)]
    exact ⟨fun _ _ => trivial, hK c _ _ [] (Mv.refl hr) (ht.put o.dst (by rw [VR]; exact ⟨[], rfl, by rw [VRs]⟩)) (by cases o.dst <;> exact hd) he⟩

end
end Go.Fy

set_option linter.unusedVariables false
namespace Go.Fy
open Go.RowKit

theorem split_filter {xs : List Nat} {i : Nat} (hs : xs.Pairwise (· < ·)) (hi : i ∈ xs) : ∃ pre post, xs = pre ++ i :: post ∧ (∀ p ∈ pre, p < i) ∧ xs.filter (fun j => j != i) = pre ++ post := by
  obtain ⟨pre, post, rfl⟩ := List.append_of_mem hi
  rw [List.pairwise_append] at hs
  obtain ⟨_, h2, h3⟩ := hs
  have hp : ∀ p ∈ pre, p < i := fun p hp => h3 p hp i (by simp)
  have hq : ∀ p ∈ post, i < p := fun p hp => (List.pairwise_cons.1 h2).1 p hp
  refine ⟨pre, post, rfl, hp, ?_⟩
  rw [List.filter_append, List.filter_cons]
  have e1 : pre.filter (fun j => j != i) = pre := List.filter_eq_self.2 fun p h => by have := hp p h; simp; omega
  have e2 : post.filter (fun j => j != i) = post := List.filter_eq_self.2 fun p h => by have := hq p h; simp; omega
  rw [e1, e2]
  simp

theorem binds_any {md : Region.Mode} {e : Edge} (h : Region.binds .any e = true) : Region.binds md e = true := by
  unfold Region.binds at h ⊢
  cases hg : e.ground <;> simp only [hg] at h ⊢ <;> first | rfl | (cases h; done) | (exact absurd h (by decide))

/-- What is not yet listed. -/
def unl (listed : Array Bool) (m : Nat) : List Nat := (List.range m).filter fun j => !listed.getD j true
def opsAt (ops : Array Oper) (l : List Nat) : List Oper := l.filterMap fun i => ops.toList[i]?
/-- What stands ahead of what is listed is listed. -/
def Closed (ops : Array Oper) (listed : Array Bool) : Prop := ∀ q, listed.getD q false = true → ∀ p, p < q → ((Region.before ops).getD q 0).testBit p = true → listed.getD p false = true

theorem getD_tf {listed : Array Bool} {j : Nat} (h : j < listed.size) : listed.getD j true = listed.getD j false := by
  simp [Array.getD, h]

section
variable {P : Program} {E : Env} {w0 : World} {ok0 : Nat → Prop} {ρ : Type} {r : ρ} {orc : Orc ρ} {ro : Option Nat} {n : Nat} {Q : Exit → Act → World → Prop}

theorem regOk_at {ops : Array Oper} (h : regOk E ops = true) {i : Nat} {o : Oper} (hi : ops.toList[i]? = some o) :
    (∀ e ∈ o.after.toList, e.on < i) ∧ ∀ p, p < i → (((Region.before ops).getD i 0).testBit p = true ∧ (∃ q ∈ edgesOf o, q = p ∨ (p < q ∧ ((Region.before ops).getD q 0).testBit p = true))) ∨
      (((Region.before ops).getD i 0).testBit p = false ∧ ∃ op, ops.toList[p]? = some op ∧ commOk E ops.toList op o = true) := by
  have hlt : i < ops.size := by simpa using (List.getElem?_eq_some_iff.1 hi).1
  have h1 := List.all_eq_true.1 h i (List.mem_range.2 hlt)
  simp only [hi, Bool.and_eq_true] at h1
  obtain ⟨h2, h3⟩ := h1
  refine ⟨fun e he => by simpa using List.all_eq_true.1 h2 e he, fun p hp => ?_⟩
  have h4 := List.all_eq_true.1 h3 p (List.mem_range.2 hp)
  cases hb : ((Region.before ops).getD i 0).testBit p with
  | true =>
    simp only [hb, cond_true, List.any_eq_true, Bool.or_eq_true, Bool.and_eq_true, decide_eq_true_eq, beq_iff_eq] at h4
    exact .inl ⟨rfl, h4⟩
  | false =>
    simp only [hb, cond_false] at h4
    split at h4
    · rename_i op hop; exact .inr ⟨rfl, op, hop, h4⟩
    · cases h4

theorem any_sound (hE : EnvOk P E) (hO : OrcOk P w0 ok0 orc) (hX : OrcX orc) (hg0 : GOk E w0 ok0) {ops : Array Oper} (hok : regOk E ops = true) {md : Region.Mode} {ds : List Deferred} {lg : List Nat}
    {K : List PV → List Blk → List Nat → Option ρ} {c0 : Cx} (hK : ∀ c' ts' (a' : Act) lg', Mv w0 c0 c' → TS c' ts' a'.tmps → a'.defers = ds → K ts' c'.H lg' = some r → Q .normal a' c'.w) :
    ∀ (fuel : Nat) (listed : Array Bool) (c : Cx) (ts : List PV) (a : Act), listed.size = ops.size → (unl listed ops.size).length = fuel → Closed ops listed →
      evOps E orc ops.toList (opsAt ops (unl listed ops.size)) ts c.H lg K nKV = some r → Mv w0 c0 c → c.ok0 = ok0 → TS c ts a.tmps → a.defers = ds → wpAnyIn (W ro) n P md ops Q fuel listed a c.w := by
  -- what may come next
  have rdy : ∀ (listed : Array Bool), listed.size = ops.size → ∀ i, i ∈ Region.ready md ops listed ↔ i < ops.size ∧ listed.getD i false = false ∧ ∃ o, ops[i]? = some o ∧ ∀ e ∈ o.after.toList, Region.binds md e = true → listed.getD e.on false = true := by
    intro listed hs i
    unfold Region.ready
    simp only [List.mem_filter, List.mem_range, Bool.and_eq_true, Bool.not_eq_true']
    constructor
    · rintro ⟨h1, h2, h3⟩
      refine ⟨h1, by rw [← getD_tf (by omega)]; exact h2, ops[i], Array.getElem?_eq_getElem h1, fun e he hb => ?_⟩
      rw [Array.getElem?_eq_getElem h1] at h3
      simp only [Option.map_some, Option.getD_some, Array.all_eq_true_iff_forall_mem] at h3
      have := h3 e (by simpa using he)
      simpa [hb] using this
    · rintro ⟨h1, h2, o, h3, h4⟩
      refine ⟨h1, by rw [getD_tf (by omega)]; exact h2, ?_⟩
      rw [h3]
      simp only [Option.map_some, Option.getD_some, Array.all_eq_true_iff_forall_mem]
      intro e he
      cases hb : Region.binds md e with
      | false => rfl
      | true => simpa using h4 e (by simpa using he) hb
  have mem_unl : ∀ (listed : Array Bool), listed.size = ops.size → ∀ i, i ∈ unl listed ops.size ↔ i < ops.size ∧ listed.getD i false = false := by
    intro listed hs i
    unfold unl
    simp only [List.mem_filter, List.mem_range, Bool.not_eq_true']
    constructor
    · rintro ⟨h1, h2⟩; exact ⟨h1, by rw [← getD_tf (by omega)]; exact h2⟩
    · rintro ⟨h1, h2⟩; exact ⟨h1, by rw [getD_tf (by omega)]; exact h2⟩
  have srt : ∀ listed, (unl listed ops.size).Pairwise (· < ·) := fun listed => (List.pairwise_lt_range).filter _
  intro fuel
  induction fuel with
  | zero =>
    intro listed c ts a hs hl hc he hm h0 ht hd
    have hn : unl listed ops.size = [] := List.eq_nil_of_length_eq_zero hl
    rw [wpAnyIn]
    refine ⟨?_, ?_⟩
    · apply List.eq_nil_iff_forall_not_mem.2
      intro i hi
      obtain ⟨h1, h2, _⟩ := (rdy listed hs i).1 hi
      have := (mem_unl listed hs i).2 ⟨h1, h2⟩
      rw [hn] at this
      cases this
    · rw [hn] at he
      exact hK c ts a lg hm ht hd he
  | succ fuel ih =>
    intro listed c ts a hs hl hc he hm h0 ht hd
    rw [wpAnyIn]
    refine ⟨fun hr => ?_, fun i hi => ?_⟩
    · exfalso
      obtain ⟨i0, rest, hun⟩ : ∃ i0 rest, unl listed ops.size = i0 :: rest := by
        cases hu : unl listed ops.size with
        | nil => rw [hu] at hl; simp at hl
        | cons x xs => exact ⟨x, xs, rfl⟩
      obtain ⟨h1, h2⟩ := (mem_unl listed hs i0).1 (by rw [hun]; simp)
      have hi0 : ops.toList[i0]? = some ops[i0] := by rw [Array.getElem?_toList]; exact Array.getElem?_eq_getElem h1
      have : i0 ∈ Region.ready md ops listed := (rdy listed hs i0).2 ⟨h1, h2, ops[i0], Array.getElem?_eq_getElem h1, fun e he' _ => by
        have hlt := (regOk_at hok hi0).1 e he'
        cases hb : listed.getD e.on false with
        | true => rfl
        | false =>
          have hmem := (mem_unl listed hs e.on).2 ⟨by omega, hb⟩
          rw [hun] at hmem
          have hsr := srt listed
          rw [hun] at hsr
          rcases List.mem_cons.1 hmem with h | h
          · omega
          · have := (List.pairwise_cons.1 hsr).1 _ h
            omega⟩
      rw [hr] at this
      cases this
    · obtain ⟨h1, h2, o, ho, hed⟩ := (rdy listed hs i).1 hi
      have hol : ops.toList[i]? = some o := by rw [Array.getElem?_toList]; exact ho
      obtain ⟨pre, post, hu, hpre, hfil⟩ := split_filter (srt listed) ((mem_unl listed hs i).2 ⟨h1, h2⟩)
      have hnl : ∀ p, p < i → ((Region.before ops).getD i 0).testBit p = true → (∃ q ∈ edgesOf o, q = p ∨ (p < q ∧ ((Region.before ops).getD q 0).testBit p = true)) → listed.getD p false = true := by
        rintro p hp _ ⟨q, hq, hqp⟩
        have hql : listed.getD q false = true := by
          simp only [edgesOf, List.mem_map, List.mem_filter] at hq
          obtain ⟨e, ⟨he1, he2⟩, rfl⟩ := hq
          exact hed e he1 (binds_any he2)
        rcases hqp with rfl | ⟨hlt, hb⟩
        · exact hql
        · exact hc q hql p hlt hb
      have hcomm : ∀ p ∈ opsAt ops pre, commOk E ops.toList p o = true := by
        intro p hp
        simp only [opsAt, List.mem_filterMap] at hp
        obtain ⟨j, hj, hjp⟩ := hp
        have hji := hpre j hj
        rcases (regOk_at hok hol).2 j hji with ⟨hb, hex⟩ | ⟨_, op, hop, hcm⟩
        · have h3 := hnl j hji hb hex
          have h4 := ((mem_unl listed hs j).1 (by rw [hu]; simp [hj])).2
          rw [h3] at h4
          cases h4
        · rw [hop] at hjp
          injection hjp with hjp
          rw [← hjp]
          exact hcm
      have e1 : opsAt ops (unl listed ops.size) = opsAt ops pre ++ o :: opsAt ops post := by
        rw [hu]
        simp only [opsAt, List.filterMap_append, List.filterMap_cons, hol]
      rw [e1] at he
      have hmf := move_front hX _ _ hcomm he
      have hl' : (listed.setIfInBounds i true).size = ops.size := by simp [hs]
      have hun' : unl (listed.setIfInBounds i true) ops.size = pre ++ post := by
        rw [← hfil]
        unfold unl
        rw [List.filter_filter]
        apply List.filter_congr
        intro j hj
        have hj' := List.mem_range.1 hj
        by_cases hij : i = j
        · subst hij
          simp [Array.getD, hs, h1]
        · simp [Array.getD, hs, hj', hij, Ne.symm hij]
      refine stepOp_sound hE hO hg0 ho (ds := ds) (K := fun ts' h' _ => evOps E orc ops.toList (opsAt ops pre ++ opsAt ops post) ts' h' lg K nKV) hmf hm.rel h0 ht hd ?_
      intro c' ts' a' lg' hm' ht' hd' hk
      refine ih (listed.setIfInBounds i true) c' ts' a' hl' ?_ ?_ ?_ (hm.trans hm') (hm'.ok0.trans h0) ht' hd'
      · rw [hun']
        have := congrArg List.length hu
        rw [hl] at this
        simp only [List.length_append, List.length_cons] at this ⊢
        omega
      · intro q hq p hpq hb
        have keep : ∀ j, listed.getD j false = true → (listed.setIfInBounds i true).getD j false = true := by
          intro j hj
          by_cases hij : i = j
          · subst hij; simp [Array.getD, hs, h1]
          · have : (listed.setIfInBounds i true).getD j false = listed.getD j false := by
              by_cases hjl : j < listed.size
              · simp [Array.getD, hjl, hij]
              · simp [Array.getD, hjl]
            rw [this]; exact hj
        by_cases hiq : i = q
        · subst hiq
          rcases (regOk_at hok hol).2 p hpq with ⟨hb', hex⟩ | ⟨hb', _⟩
          · exact keep p (hnl p hpq hb' hex)
          · rw [hb'] at hb; cases hb
        · have : (listed.setIfInBounds i true).getD q false = listed.getD q false := by
            by_cases hjl : q < listed.size
            · simp [Array.getD, hjl, hiq]
            · simp [Array.getD, hjl]
          rw [this] at hq
          exact keep p (hc q hq p hpq hb)
      · rw [hun']
        simp only [opsAt, List.filterMap_append] at hk ⊢
        exact hk

/-- A region that draws its order, read as text. -/
theorem draw_sound (hE : EnvOk P E) (hO : OrcOk P w0 ok0 orc) (hX : OrcX orc) (hg0 : GOk E w0 ok0) (hok : (∀ ops, E.ok ops = true → regOk E ops = true) ∧ ReOk P E) : DrawOk P E w0 ok0 orc E.ok := by
  refine ⟨hok.2, ?_⟩
  intro id ops ro n Q r c ts a ds lg K hops he hr h0 ht hd hK
  have hro := hok.1 ops hops
  have hm := on_mv hr (below_drew c.w c.w.heap.size)
  have hall : unl (Array.replicate ops.size false) ops.size = List.range ops.size := by
    unfold unl
    apply List.filter_eq_self.2
    intro j hj
    simp [Array.getD, List.mem_range.1 hj]
  have hops' : opsAt ops (List.range ops.size) = ops.toList := by
    unfold opsAt
    apply List.ext_getElem?
    intro j
    have key : ∀ (l : List Oper), (List.range l.length).filterMap (fun i => l[i]?) = l := by
      intro l
      induction l with
      | nil => rfl
      | cons x xs ih =>
        rw [List.length_cons, List.range_succ_eq_map, List.filterMap_cons]
        simp only [List.getElem?_cons_zero, List.filterMap_map]
        congr 1
    have := key ops.toList
    rw [Array.length_toList] at this
    rw [this]
  refine wpIn_region_draw fun t => ?_
  have go : ∀ md t, wpOpsIn (W ro) n P ops Q (Region.linearise.go md ops ops.size t (Array.replicate ops.size false) []) a c.w.drew := by
    intro md t
    apply wpAnyIn_sound
    refine any_sound (r := r) hE hO hX hg0 hro (c0 := c.on c.w.drew) (K := K) (lg := lg) (ds := ds) ?_ ops.size _ (c.on c.w.drew) ts a (by simp) (by rw [hall]; simp) ?_ ?_ (Mv.refl hm.rel) h0 (ht.ext hm.ext) hd
    · exact fun c' ts' a' lg' hm' => hK c' ts' a' lg' (hm.trans hm')
    · intro q hq
      by_cases hql : q < ops.size
      · simp [Array.getD, hql] at hq
      · simp [Array.getD, hql] at hq
    · rw [hall, hops']
      exact he
  unfold Region.schedule
  split
  · exact go _ _
  · exact go _ _

/-- All together: what the evaluator tells of a call comes to pass. -/
theorem orc_sound (hE : EnvOk P E) (hg0 : GOk E w0 ok0) (hC : CodeOk E) (hok : (∀ ops, E.ok ops = true → regOk E ops = true) ∧ ReOk P E) (k : Nat) : ∀ d, OrcOk P w0 ok0 (orcN (ρ := ρ) E k d)
  | 0 => ⟨fun c f as vs K r R _ _ he => by simp [orcN] at he, fun c l as vs K r R _ _ he => by simp [orcN] at he⟩
  | d + 1 =>
    have hO := orc_sound hE hg0 hC hok k d
    have hD := draw_sound hE hO (orcN_x E k d) hg0 hok
    ⟨fun c f as vs K r R hr h0 he ha hR => evFn_sound hE hO hg0 hC hD he hr h0 ha hR, fun c l as vs K r R hr h0 he ha hR => evRound_sound hE hO hg0 hD he hr h0 ha hR⟩

end
end Go.Fy

set_option linter.unusedVariables false
namespace Go.Fy
open Go.RowKit

/-- A unit of a zero value. -/
inductive ZU where
  | d (t : Ty) | np | nf | ni | nm | nsl
def ZU.pv : ZU → PV
  | .d t => .d t (dflt t)
  | .np => .np
  | .nf => .nf
  | .ni => .ni
  | .nm => .nm
  | .nsl => .nsl
def zc : Ty → List Value
  | .bool => [.bool false]
  | .int k => [.int k 0]
  | .str => [.string ⟨#[]⟩]
  | .sl _ => [.slice none 0 0]
  | .arr n t => (List.replicate n (zc t)).flatten
  | .nil => []
  | .cons a b => zc a ++ zc b
def ZU.cells : ZU → List Value
  | .d t => zc t
  | .np => [.pointer none]
  | .nf => [.nilFunc]
  | .ni => [.nilIface]
  | .nm => [.map none]
  | .nsl => [.slice none 0 0]

theorem zc_DC (w : World) (ok : Nat → Prop) : ∀ t : Ty, DC w ok t (dflt t) (zc t)
  | .bool => rfl
  | .int _ => rfl
  | .str => rfl
  | .sl _ => nsl_DC
  | .arr n t => ⟨by simp [dflt], chain_rep (zc_DC w ok t) n⟩
  | .nil => rfl
  | .cons a b => ⟨_, _, rfl, zc_DC w ok a, zc_DC w ok b⟩

theorem zu_URs (c : Cx) : ∀ l : List ZU, URs c (l.map ZU.pv) (l.flatMap ZU.cells)
  | [] => by rw [List.map_nil, List.flatMap_nil, URs]
  | x :: l => by
    rw [List.map_cons, List.flatMap_cons]
    refine URs_cons.2 ⟨x.cells, _, rfl, ?_, zu_URs c l⟩
    cases x with
    | d t => exact zc_DC _ _ t
    | _ => exact ⟨_, rfl, rfl, by simp [ZU.pv, VR]⟩

section
variable {P : Program} {E : Env} {w0 : World}

/-- The whole, seen from outside: a call of data, its blocks ok, comes to what the evaluator tells. -/
theorem call_sound (hE : EnvOk P E) (hC : CodeOk E) (hok : (∀ ops, E.ok ops = true → regOk E ops = true) ∧ ReOk P E) {w : World} {ok : Nat → Prop} (hlt : ∀ b, ok b → b < w.heap.size) (hg : GOk E w ok) {ts : List Ty} {xs : DenL ts} {vs : List Value}
    (ha : OutR.DVs w ok ts xs vs) {k d f : Nat} {o : OutV} {H : List Blk} (he : (orcN (ρ := OutV × List Blk) E k d).call f (ofRes ts xs) [] (fun o h _ => some (o, h)) = some (o, H)) :
    (∃ fn, P.funcs[f]? = some fn ∧ fn.name ≠ "runtime.NumGoroutine" ∧ fn.body.isSome = true) ∧
      Calls P f vs.toArray w fun e w' => ∃ c : Cx, c.w = w' ∧ c.H = H ∧ Rel w c ∧ c.ok0 = ok ∧ OutVR c o e := by
  let c : Cx := { w, bs := [], caps := [], H := [], lo := w.heap.size, ok0 := ok }
  have hr : Rel w c := ⟨rfl, hlt, rfl, rfl, Below.refl _ _, fun i j hi => absurd (live_lt hi) (by simp [c]), fun i hi => absurd (live_lt hi) (by simp [c]), fun i x hx => by simp [c] at hx⟩
  have hv : VRs c (ofRes ts xs) vs := ofRes_VRs ts xs vs (DVs.keeps ⟨fun b hb => .inl hb, fun _ _ => rfl⟩ ts xs vs ha)
  have hO := orc_sound (ρ := OutV × List Blk) (w0 := w) (ok0 := ok) hE hg hC hok k d
  refine hO.call c f _ vs _ (o, H) _ hr rfl he hv ?_
  intro c' out e lg hm hov hk
  injection hk with hk
  injection hk with h1 h2
  subst h1
  exact ⟨c', rfl, h2, hm.rel, hm.ok0, hov⟩

end
end Go.Fy

set_option linter.unusedVariables false
namespace Go.Fy
open Go.RowKit

def fieldB (P : Program) (shs : List (Option (Nat × Ty))) (x : Option (Nat × Nat × Nat)) (y : Option Field) : Bool := match x, y with
  | some (k, off, ft), some fld => fld.offset == off && fld.type == ft && soff shs k == off && decide (k ≤ shs.length) && (match P.info? ft with | some i => i.size != 0 | none => false)
  | _, _ => false
def kindB (P : Program) (shs : List (Option (Nat × Ty))) (k : Tk) (d : TypeDesc) : Bool := match k, d with
  | .bool, .bool => true
  | .int k, .int k' => decide (k = k')
  | .str, .string => true
  | .ptr e, .pointer e' => e == e'
  | .sl e, .slice e' => e == e'
  | .arr n e, .array n' e' => n == n' && e == e'
  | .st fs, .struct fields => fs.length == fields.size && (List.range fs.length).all fun f => fieldB P shs fs[f]? fields[f]?
  | .fn, .func _ _ _ => true
  | .ifc, .interface _ => true
  | .map k e, .map k' e' => k == k' && e == e'
  | _, _ => false
def arrB (E : Env) (ti : TI) : Bool := match ti.kind with
  | .arr n e => match ti.shs, E.tt e with
    | [some (m, τ)], some te => m == n && decide (te.ty = some τ)
    | _, _ => false
  | _ => true
def tokB (P : Program) (E : Env) (t : Nat) (ti : TI) : Bool :=
  (match P.underlying t with | some d => kindB P ti.shs ti.kind d | none => false) && (ti.shs.map ssz).sum == ti.size && decide (ti.zero.map shp = ti.shs) && ti.kind.agg == ti.agg &&
  (ti.agg || decide (ti.shs = [none])) && (match ti.ty with | some τ => decide (tsh τ = ti.shs) && τ.agg == ti.agg && !(P.eqGuardType P.depth t) | none => true) && arrB E ti &&
  (match P.info? t with | some i => i.size == ti.size && i.bytes == ti.bytes | none => false)

theorem zu_one {l : List ZU} (hw : (l.map ZU.pv).all wfU = true) (h : (l.map ZU.pv).map shp = [none]) : ∃ v, l.flatMap ZU.cells = [v] ∧ One v := by
  match l, h with
  | [], h => simp at h
  | x :: y :: l, h => simp at h
  | [x], h =>
    rw [List.flatMap_cons, List.flatMap_nil, List.append_nil]
    cases x with
    | d t =>
      have hs : shp (.d t (dflt t)) = none := by simpa [ZU.pv] using h
      cases t with
      | bool => exact ⟨_, rfl, rfl⟩
      | int k => exact ⟨_, rfl, rfl⟩
      | str => exact ⟨_, rfl, rfl⟩
      | sl t => exact ⟨_, rfl, rfl⟩
      | arr n t => simp [shp] at hs
      | nil => simp [ZU.pv, wfU] at hw
      | cons a b => simp [ZU.pv, wfU] at hw
    | _ => exact ⟨_, rfl, rfl⟩

theorem kindB_ok {P : Program} {shs : List (Option (Nat × Ty))} {k : Tk} {d : TypeDesc} (h : kindB P shs k d = true) : TkOk shs k d ∧ k ≠ .other ∧ (∀ fs fields, k = .st fs → d = .struct fields → fs.length = fields.size) ∧
    ∀ fs, k = .st fs → ∀ (f k off ft : Nat), fs[f]? = some (k, off, ft) → ∃ i, P.info? ft = some i ∧ i.size ≠ 0 := by
  cases k <;> cases d <;> simp only [kindB, Bool.and_eq_true, beq_iff_eq, decide_eq_true_eq, Bool.false_eq_true] at h <;> first
    | (cases h; done)
    | (refine ⟨?_, by simp, by simp, by simp⟩
       first
        | rfl
        | (subst h; rfl)
        | (obtain ⟨rfl, rfl⟩ := h; rfl)
        | exact ⟨_, _, _, rfl⟩
        | exact ⟨_, rfl⟩)
    | skip
  rename_i fs fields
  have key : ∀ (f k off ft : Nat), fs[f]? = some (k, off, ft) → ∃ fld, fields[f]? = some fld ∧ (fld.offset = off ∧ fld.type = ft ∧ soff shs k = off ∧ k ≤ shs.length) ∧ ∃ i, P.info? ft = some i ∧ i.size ≠ 0 := by
    intro f k off ft hf
    have hlt : f < fs.length := (List.getElem?_eq_some_iff.1 hf).1
    have h2 := List.all_eq_true.1 h.2 f (List.mem_range.2 hlt)
    rw [hf] at h2
    cases hfl : fields[f]? with
    | none => rw [hfl] at h2; cases h2
    | some fld =>
      rw [hfl] at h2
      simp only [fieldB, Bool.and_eq_true, beq_iff_eq, decide_eq_true_eq] at h2
      obtain ⟨⟨⟨⟨a1, a2⟩, a3⟩, a4⟩, a5⟩ := h2
      refine ⟨fld, rfl, ⟨a1, a2, a3, a4⟩, ?_⟩
      cases hi : P.info? ft with
      | none => rw [hi] at a5; cases a5
      | some i => rw [hi] at a5; exact ⟨i, rfl, by simpa using a5⟩
  refine ⟨⟨fields, rfl, fun f k off ft hf => ?_⟩, by simp, fun fs' fields' e1 e2 => ?_, fun fs' e1 f k off ft hf => ?_⟩
  · obtain ⟨fld, b1, ⟨b2, b3, b4, b5⟩, _⟩ := key f k off ft hf
    exact ⟨fld, b1, b2, b3, b4, b5⟩
  · cases e1; cases e2; exact h.1
  · cases e1; exact (key f k off ft hf).choose_spec.2.2

theorem tok_of {P : Program} {E : Env} {t : Nat} {ti : TI} (hb : tokB P E t ti = true) (zus : List ZU) (hz0 : ti.zero = zus.map ZU.pv) (hz : (P.info? t).bind (·.zero) = some (mkV ti.agg (zus.flatMap ZU.cells)))
    (hty : ∀ τ, ti.ty = some τ → zus.flatMap ZU.cells = zc τ) (hwf : ti.zero.all wfU = true) : TOk P E t ti := by
  simp only [tokB, Bool.and_eq_true, decide_eq_true_eq, beq_iff_eq, Bool.or_eq_true] at hb
  obtain ⟨⟨⟨⟨⟨⟨⟨h1, h2⟩, h3⟩, h4⟩, h5⟩, h6⟩, h7⟩, h8⟩ := hb
  cases hu : P.underlying t with
  | none => simp [hu] at h1
  | some d =>
    simp only [hu] at h1
    cases hi : P.info? t with
    | none => simp [hi] at h8
    | some i =>
      simp only [hi, Bool.and_eq_true, beq_iff_eq, Option.bind_some] at h8 hz
      have hcell : (mkV ti.agg (zus.flatMap ZU.cells)).cells.toList = zus.flatMap ZU.cells := by
        cases ha : ti.agg with
        | true => rfl
        | false =>
          rw [ha] at h5
          have h5' : ti.shs = [none] := by simpa using h5
          obtain ⟨v, e, ho⟩ := zu_one (l := zus) (by rw [← hz0]; exact hwf) (by rw [← hz0, h3, h5'])
          rw [e]
          exact one_cells ho
      obtain ⟨k1, k2, k3, k4⟩ := kindB_ok h1
      exact {
        und := ⟨d, hu, k1⟩
        inf := ⟨i, _, hi, h8.1, h8.2, hz, by rw [hcell], fun c => by rw [hcell, hz0]; exact zu_URs c zus, fun τ hτ w ok => by rw [hcell, hty τ hτ]; exact zc_DC w ok τ⟩
        sz := h2
        zsh := h3
        aggk := h4
        other := k2
        one := fun ha => by rw [ha] at h5; simpa using h5
        ty := fun τ hτ => by rw [hτ] at h6; simp only [Bool.and_eq_true, decide_eq_true_eq, beq_iff_eq] at h6; exact h6.1
        fsz := k4
        flen := fun fs fields hk hd => by rw [hu] at hd; injection hd with hd; exact k3 fs fields hk hd
        eqg := fun τ hτ => by rw [hτ] at h6; simp only [Bool.and_eq_true, Bool.not_eq_true'] at h6; exact h6.2
        arr := fun n e hk => by
          unfold arrB at h7
          rw [hk] at h7
          simp only at h7
          split at h7
          · rename_i m τ te hs ht
            simp only [Bool.and_eq_true, beq_iff_eq, decide_eq_true_eq] at h7
            exact ⟨τ, te, by rw [hs, h7.1], ht, h7.2⟩
          · cases h7 }

end Go.Fy

set_option linter.unusedVariables false
set_option linter.unusedSimpArgs false
namespace Go.Fy
open Go.RowKit

def lEq {α : Type} (f : α → α → Bool) : List α → List α → Bool
  | [], [] => true
  | a :: r, b :: s => f a b && lEq f r s
  | _, _ => false
theorem lEq_ok {α : Type} {f : α → α → Bool} (hf : ∀ a b, f a b = true → a = b) : ∀ {l m : List α}, lEq f l m = true → l = m
  | [], [], _ => rfl
  | a :: r, b :: s, h => by
    simp only [lEq, Bool.and_eq_true] at h
    rw [hf a b h.1, lEq_ok hf h.2]
  | [], _ :: _, h => by cases h
  | _ :: _, [], h => by cases h
def aEq {α : Type} (f : α → α → Bool) (a b : Array α) : Bool := lEq f a.toList b.toList
theorem aEq_ok {α : Type} {f : α → α → Bool} (hf : ∀ a b, f a b = true → a = b) {a b : Array α} (h : aEq f a b = true) : a = b := by
  have := lEq_ok hf h
  cases a; cases b; simp_all
def oEq {α : Type} (f : α → α → Bool) : Option α → Option α → Bool
  | none, none => true
  | some a, some b => f a b
  | _, _ => false
theorem oEq_ok {α : Type} {f : α → α → Bool} (hf : ∀ a b, f a b = true → a = b) {a b : Option α} (h : oEq f a b = true) : a = b := by
  cases a <;> cases b <;> simp only [oEq, Bool.false_eq_true] at h ⊢
  rw [hf _ _ h]

def vEq : Value → Value → Bool
  | .bool a, .bool b => a == b
  | .int k a, .int l b => decide (k = l) && decide (a = b)
  | .string s, .string t => lEq (fun a b => decide (a = b)) s.data.toList t.data.toList
  | .pointer none, .pointer none => true
  | .slice none 0 0, .slice none 0 0 => true
  | .map none, .map none => true
  | .nilFunc, .nilFunc => true
  | .nilIface, .nilIface => true
  | _, _ => false
theorem vEq_ok : ∀ a b : Value, vEq a b = true → a = b := by
  intro a b h
  unfold vEq at h
  split at h <;> first
    | rfl
    | (simp only [Bool.and_eq_true, decide_eq_true_eq, beq_iff_eq] at h; first | (subst h; rfl) | (obtain ⟨rfl, rfl⟩ := h; rfl))
    | cases h
    | skip
  rename_i s t
  have := lEq_ok (fun a b h => of_decide_eq_true h) h
  cases s with | mk s => cases t with | mk t => cases s; cases t; simp_all

def dEq : Operand → Operand → Bool
  | .tmp a, .tmp b => a == b
  | .const a, .const b => vEq a b
  | .global a, .global b => a == b
  | .func a, .func b => a == b
  | _, _ => false
theorem dEq_ok (a b : Operand) (h : dEq a b = true) : a = b := by
  unfold dEq at h
  split at h <;> first
    | (rw [beq_iff_eq] at h; rw [h])
    | rw [vEq_ok _ _ h]
    | cases h
def cEq : Callee → Callee → Bool
  | .value a, .value b => dEq a b
  | .builtin a, .builtin b => decide (a = b)
  | _, _ => false
theorem cEq_ok (a b : Callee) (h : cEq a b = true) : a = b := by
  unfold cEq at h
  split at h <;> first
    | rw [dEq_ok _ _ h]
    | rw [of_decide_eq_true h]
    | cases h
def nEq (a b : Nat) : Bool := a == b
theorem nEq_ok (a b : Nat) (h : nEq a b = true) : a = b := beq_iff_eq.1 h
def bEq (a b : Bool) : Bool := a == b
theorem bEq_ok (a b : Bool) (h : bEq a b = true) : a = b := beq_iff_eq.1 h
def pEq {α β : Type} (f : α → α → Bool) (g : β → β → Bool) (a b : α × β) : Bool := f a.1 b.1 && g a.2 b.2
theorem pEq_ok {α β : Type} {f : α → α → Bool} {g : β → β → Bool} (hf : ∀ a b, f a b = true → a = b) (hg : ∀ a b, g a b = true → a = b) (a b : α × β) (h : pEq f g a b = true) : a = b := by
  simp only [pEq, Bool.and_eq_true] at h
  exact Prod.ext (hf _ _ h.1) (hg _ _ h.2)
def fEq : Fn → Fn → Bool
  | .func a, .func b => a == b
  | _, _ => false
theorem fEq_ok (a b : Fn) (h : fEq a b = true) : a = b := by
  unfold fEq at h
  split at h <;> first
    | (rw [beq_iff_eq] at h; rw [h])
    | cases h
def callEq (a b : Call) : Bool := cEq a.callee b.callee && aEq dEq a.args b.args && aEq nEq a.argTypes b.argTypes
theorem callEq_ok (a b : Call) (h : callEq a b = true) : a = b := by
  simp only [callEq, Bool.and_eq_true] at h
  obtain ⟨⟨h1, h2⟩, h3⟩ := h
  have h1 := cEq_ok _ _ h1
  have h2 := aEq_ok dEq_ok h2
  have h3 := aEq_ok nEq_ok h3
  cases a; cases b; simp_all

def opEq : Op → Op → Bool
  | .move x, .move y => dEq x y
  | .assign x, .assign y => dEq x y
  | .pick a b c, .pick x y z => dEq a x && dEq b y && dEq c z
  | .alloc t, .alloc u => nEq t u
  | .box t x, .box u y => nEq t u && dEq x y
  | .build t ps, .build u qs => nEq t u && aEq (pEq nEq dEq) ps qs
  | .buildSlice t n ps, .buildSlice u m qs => nEq t u && nEq n m && aEq (pEq nEq dEq) ps qs
  | .load t x, .load u y => nEq t u && dEq x y
  | .store t x v, .store u y w => nEq t u && dEq x y && dEq v w
  | .nilCheck x, .nilCheck y => dEq x y
  | .binOp o t x y u, .binOp o' t' x' y' u' => decide (o = o') && nEq t t' && dEq x x' && dEq y y' && nEq u u'
  | .unOp o t x, .unOp o' t' x' => decide (o = o') && nEq t t' && dEq x x'
  | .convert s d x, .convert s' d' x' => nEq s s' && nEq d d' && dEq x x'
  | .makeInterface t x, .makeInterface u y => nEq t u && dEq x y
  | .makeFunc f a c, .makeFunc f' a' c' => fEq f f' && aEq dEq a a' && aEq dEq c c'
  | .makeSlice t a b, .makeSlice t' a' b' => nEq t t' && dEq a a' && dEq b b'
  | .slice t x l h m, .slice t' x' l' h' m' => nEq t t' && dEq x x' && oEq dEq l l' && oEq dEq h h' && oEq dEq m m'
  | .fieldAddr t x f, .fieldAddr t' x' f' => nEq t t' && dEq x x' && nEq f f'
  | .field t x f, .field t' x' f' => nEq t t' && dEq x x' && nEq f f'
  | .indexAddr t x i, .indexAddr t' x' i' => nEq t t' && dEq x x' && dEq i i'
  | .index t x i, .index t' x' i' => nEq t t' && dEq x x' && dEq i i'
  | .extract x i, .extract x' i' => dEq x x' && nEq i i'
  | .typeAssert x t a o, .typeAssert x' t' a' o' => dEq x x' && nEq t t' && nEq a a' && bEq o o'
  | .panic x, .panic y => dEq x y
  | .call c, .call d => callEq c d
  | .sliceToArrayPointer t x, .sliceToArrayPointer u y => nEq t u && dEq x y
  | .lookup t x i b, .lookup t' x' i' b' => nEq t t' && dEq x x' && dEq i i' && bEq b b'
  | .makeMap t x, .makeMap t' x' => nEq t t' && oEq dEq x x'
  | .range t x, .range t' x' => nEq t t' && dEq x x'
  | .next x b, .next x' b' => dEq x x' && bEq b b'
  | .defer c, .defer d => callEq c d
  | _, _ => false
theorem opEq_ok (a b : Op) (h : opEq a b = true) : a = b := by
  unfold opEq at h
  split at h <;> (try simp only [Bool.and_eq_true, decide_eq_true_eq] at h) <;> first
    | (cases h; done)
    | (rw [dEq_ok _ _ h]; done)
    | (rw [nEq_ok _ _ h]; done)
    | (rw [callEq_ok _ _ h]; done)
    | skip
  · rw [dEq_ok _ _ h.1.1, dEq_ok _ _ h.1.2, dEq_ok _ _ h.2]
  · rw [nEq_ok _ _ h.1, dEq_ok _ _ h.2]
  · rw [nEq_ok _ _ h.1, aEq_ok (pEq_ok nEq_ok dEq_ok) h.2]
  · rw [nEq_ok _ _ h.1.1, nEq_ok _ _ h.1.2, aEq_ok (pEq_ok nEq_ok dEq_ok) h.2]
  · rw [nEq_ok _ _ h.1, dEq_ok _ _ h.2]
  · rw [nEq_ok _ _ h.1.1, dEq_ok _ _ h.1.2, dEq_ok _ _ h.2]
  · rw [h.1.1.1.1, nEq_ok _ _ h.1.1.1.2, dEq_ok _ _ h.1.1.2, dEq_ok _ _ h.1.2, nEq_ok _ _ h.2]
  · rw [h.1.1, nEq_ok _ _ h.1.2, dEq_ok _ _ h.2]
  · rw [nEq_ok _ _ h.1.1, nEq_ok _ _ h.1.2, dEq_ok _ _ h.2]
  · rw [nEq_ok _ _ h.1, dEq_ok _ _ h.2]
  · rw [fEq_ok _ _ h.1.1, aEq_ok dEq_ok h.1.2, aEq_ok dEq_ok h.2]
  · rw [nEq_ok _ _ h.1.1, dEq_ok _ _ h.1.2, dEq_ok _ _ h.2]
  · rw [nEq_ok _ _ h.1.1.1.1, dEq_ok _ _ h.1.1.1.2, oEq_ok dEq_ok h.1.1.2, oEq_ok dEq_ok h.1.2, oEq_ok dEq_ok h.2]
  · rw [nEq_ok _ _ h.1.1, dEq_ok _ _ h.1.2, nEq_ok _ _ h.2]
  · rw [nEq_ok _ _ h.1.1, dEq_ok _ _ h.1.2, nEq_ok _ _ h.2]
  · rw [nEq_ok _ _ h.1.1, dEq_ok _ _ h.1.2, dEq_ok _ _ h.2]
  · rw [nEq_ok _ _ h.1.1, dEq_ok _ _ h.1.2, dEq_ok _ _ h.2]
  · rw [dEq_ok _ _ h.1, nEq_ok _ _ h.2]
  · rw [dEq_ok _ _ h.1.1.1, nEq_ok _ _ h.1.1.2, nEq_ok _ _ h.1.2, bEq_ok _ _ h.2]
  · rw [nEq_ok _ _ h.1, dEq_ok _ _ h.2]
  · rw [nEq_ok _ _ h.1.1.1, dEq_ok _ _ h.1.1.2, dEq_ok _ _ h.1.2, bEq_ok _ _ h.2]
  · rw [nEq_ok _ _ h.1, oEq_ok dEq_ok h.2]
  · rw [nEq_ok _ _ h.1, dEq_ok _ _ h.2]
  · rw [dEq_ok _ _ h.1, bEq_ok _ _ h.2]

def edgeEq (a b : Edge) : Bool := a.on == b.on && decide (a.ground = b.ground)
theorem edgeEq_ok (a b : Edge) (h : edgeEq a b = true) : a = b := by
  simp only [edgeEq, Bool.and_eq_true, beq_iff_eq, decide_eq_true_eq] at h
  cases a; cases b; simp_all
def operEq (a b : Oper) : Bool := oEq nEq a.dst b.dst && opEq a.op b.op && nEq a.type b.type && decide (a.pos = b.pos) && aEq edgeEq a.after b.after && oEq (pEq nEq bEq) a.guard b.guard
theorem operEq_ok (a b : Oper) (h : operEq a b = true) : a = b := by
  simp only [operEq, Bool.and_eq_true, decide_eq_true_eq] at h
  obtain ⟨⟨⟨⟨⟨h1, h2⟩, h3⟩, h4⟩, h5⟩, h6⟩ := h
  have h1 := oEq_ok nEq_ok h1
  have h2 := opEq_ok _ _ h2
  have h3 := nEq_ok _ _ h3
  have h5 := aEq_ok edgeEq_ok h5
  have h6 := oEq_ok (pEq_ok nEq_ok bEq_ok) h6
  cases a; cases b; simp_all

/-- Are two codes the same? -/
def codeEq : Code → Code → Bool
  | .skip, .skip => true
  | .region i o d, .region j p e => nEq i j && aEq operEq o p && bEq d e
  | .seq a b, .seq c d => codeEq a c && codeEq b d
  | .cond x a b, .cond y c d => dEq x y && codeEq a c && codeEq b d
  | .block i a, .block j b => nEq i j && codeEq a b
  | .loop a, .loop b => codeEq a b
  | .rangeFunc f ps a b, .rangeFunc g qs c d => dEq f g && aEq nEq ps qs && codeEq a c && codeEq b d
  | .exit i, .exit j => nEq i j
  | .scope a, .scope b => codeEq a b
  | .label i, .label j => nEq i j
  | .goto i, .goto j => nEq i j
  | .ret, .ret => true
  | _, _ => false
theorem codeEq_ok : ∀ a b : Code, codeEq a b = true → a = b
  | .skip, b, h => by cases b <;> simp [codeEq] at h ⊢
  | .region i o d, b, h => by
    cases b <;> simp only [codeEq, Bool.and_eq_true, Bool.false_eq_true] at h
    rw [nEq_ok _ _ h.1.1, aEq_ok operEq_ok h.1.2, bEq_ok _ _ h.2]
  | .seq a b, c, h => by
    cases c <;> simp only [codeEq, Bool.and_eq_true, Bool.false_eq_true] at h
    rw [codeEq_ok a _ h.1, codeEq_ok b _ h.2]
  | .cond x a b, c, h => by
    cases c <;> simp only [codeEq, Bool.and_eq_true, Bool.false_eq_true] at h
    rw [dEq_ok _ _ h.1.1, codeEq_ok a _ h.1.2, codeEq_ok b _ h.2]
  | .block i a, b, h => by
    cases b <;> simp only [codeEq, Bool.and_eq_true, Bool.false_eq_true] at h
    rw [nEq_ok _ _ h.1, codeEq_ok a _ h.2]
  | .loop a, b, h => by
    cases b <;> simp only [codeEq, Bool.false_eq_true] at h
    rw [codeEq_ok a _ h]
  | .rangeFunc f ps a b, c, h => by
    cases c <;> simp only [codeEq, Bool.and_eq_true, Bool.false_eq_true] at h
    rw [dEq_ok _ _ h.1.1.1, aEq_ok nEq_ok h.1.1.2, codeEq_ok a _ h.1.2, codeEq_ok b _ h.2]
  | .exit i, b, h => by
    cases b <;> simp only [codeEq, Bool.false_eq_true] at h
    rw [nEq_ok _ _ h]
  | .scope a, b, h => by
    cases b <;> simp only [codeEq, Bool.false_eq_true] at h
    rw [codeEq_ok a _ h]
  | .label i, b, h => by
    cases b <;> simp only [codeEq, Bool.false_eq_true] at h
    rw [nEq_ok _ _ h]
  | .goto i, b, h => by
    cases b <;> simp only [codeEq, Bool.false_eq_true] at h
    rw [nEq_ok _ _ h]
  | .ret, b, h => by cases b <;> simp [codeEq] at h ⊢
  | .refuse w, b, h => by cases b <;> simp [codeEq] at h

end Go.Fy

set_option linter.unusedVariables false
set_option linter.unusedSimpArgs false
namespace Go.Fy
open Go.RowKit

/-- What a hole is for: a datum, or a number. -/
inductive HT where
  | d (t : Ty)
  | n
  deriving DecidableEq
@[reducible] def HT.den : HT → Type
  | .d t => t.den
  | .n => Nat
@[reducible] def DenH : List HT → Type
  | [] => Unit
  | t :: ts => t.den × DenH ts
inductive HV where
  | d (t : Ty) (x : t.den)
  | n (k : Nat)
def encH : (ts : List HT) → DenH ts → List HV
  | [], _ => []
  | .d t :: ts, v => .d t v.1 :: encH ts v.2
  | .n :: ts, v => .n v.1 :: encH ts v.2
def decH : (ts : List HT) → List HV → Option (DenH ts)
  | [], [] => some ()
  | .d t :: ts, .d t' x :: r => match cast? t' t x with
    | some y => match decH ts r with
      | some v => some (y, v)
      | none => none
    | none => none
  | .n :: ts, .n k :: r => match decH ts r with
    | some v => some (k, v)
    | none => none
  | _, _ => none

theorem decH_ok : ∀ (ts : List HT) (l : List HV) (v : DenH ts), decH ts l = some v → encH ts v = l
  | [], [], v, h => rfl
  | [], _ :: _, v, h => by simp [decH] at h
  | .d t :: ts, [], v, h => by simp [decH] at h
  | .n :: ts, [], v, h => by simp [decH] at h
  | .d t :: ts, .n k :: r, v, h => by simp [decH] at h
  | .n :: ts, .d t x :: r, v, h => by simp [decH] at h
  | .d t :: ts, .d t' x :: r, v, h => by
    rw [decH] at h
    split at h
    · rename_i y hy
      split at h
      · rename_i w hw
        injection h with h
        subst h
        obtain ⟨e, hx⟩ := cast?_some hy
        subst e hx
        rw [encH, decH_ok ts r w hw]
      · cases h
    · cases h
  | .n :: ts, .n k :: r, v, h => by
    rw [decH] at h
    split at h
    · rename_i w hw
      injection h with h
      subst h
      rw [encH, decH_ok ts r w hw]
    · cases h

/-- A number, or a hole for one. -/
inductive NP where
  | k (n : Nat)
  | h

inductive PP where
  | un
  | hole (t : Ty)
  | nsl
  | ag (us : List PP)
  | tu (us : List PP)
  | pt (b i : Nat)
  | pe (b i : Nat) (ver j : NP) (q : Nat)
  | ce (t : Ty) (q : Nat)
  | np
  | ro (b : Nat) (ver off len : NP)
  | ar (b i : Nat) (off len : NP)
  | fn (f : Nat) (caps : List PP)
  | yl (l : Nat)
  | nf
  | ic (t : Nat) (v : PP)
  | ni
  | nm
  | it (b : Nat)
  | cb (b : Bool)
  | ci (k : IntKind) (n : Int)
  | cs (s : List UInt8)
structure LPt where
  state : LoopState
  pending : Option Code
  fno : Nat
  tmps : List PP
  params : List Tmp
  assign : Code
  body : Code
inductive BP where
  | dead
  | cells (us : List PP)
  | row (e : Nat) (t : Ty) (ver : NP)
  | loop (l : LPt)
  | defs
  | iter (pos : NP)
structure SP where
  ts : List PP
  h : List BP
  df : List Nat

def app (a b : Option (List HV)) : Option (List HV) := match a with
  | some x => match b with
    | some y => some (x ++ y)
    | none => none
  | none => none
def matchN : NP → Nat → Option (List HV)
  | .k n, m => bif Nat.beq n m then some [] else none
  | .h, m => some [.n m]
mutual
def matchP : PP → PV → Option (List HV)
  | .un, v => match v with | .un => some [] | _ => none
  | .hole t, v => match v with | .d t' x => (match cast? t' t x with | some y => some [.d t y] | none => none) | _ => none
  | .nsl, v => match v with | .nsl => some [] | _ => none
  | .ag us, v => match v with | .ag vs => matchPs us vs | _ => none
  | .tu us, v => match v with | .tu vs => matchPs us vs | _ => none
  | .pt b i, v => match v with | .pt b' i' => (bif Nat.beq b b' && Nat.beq i i' then some [] else none) | _ => none
  | .pe b i ver j q, v => match v with | .pe b' i' ver' j' q' => (bif Nat.beq b b' && Nat.beq i i' && Nat.beq q q' then app (matchN ver ver') (matchN j j') else none) | _ => none
  | .ce t q, v => match v with | .ce t' x q' => (bif Nat.beq q q' then (match cast? t' t x with | some y => some [.d t y] | none => none) else none) | _ => none
  | .np, v => match v with | .np => some [] | _ => none
  | .ro b ver off len, v => match v with | .ro b' ver' off' len' => (bif Nat.beq b b' then app (matchN ver ver') (app (matchN off off') (matchN len len')) else none) | _ => none
  | .ar b i off len, v => match v with | .ar b' i' off' len' => (bif Nat.beq b b' && Nat.beq i i' then app (matchN off off') (matchN len len') else none) | _ => none
  | .fn f caps, v => match v with | .fn f' caps' => (bif Nat.beq f f' then matchPs caps caps' else none) | _ => none
  | .yl l, v => match v with | .yl l' => (bif Nat.beq l l' then some [] else none) | _ => none
  | .nf, v => match v with | .nf => some [] | _ => none
  | .ic t p, v => match v with | .ic t' u => (bif Nat.beq t t' then matchP p u else none) | _ => none
  | .ni, v => match v with | .ni => some [] | _ => none
  | .nm, v => match v with | .nm => some [] | _ => none
  | .cb b, v => match v with | .d .bool x => (bif bEq b x then some [] else none) | _ => none
  | .ci k n, v => match v with | .d (.int k') x => (bif decide (k = k') && decide (n = x) then some [] else none) | _ => none
  | .cs s, v => match v with | .d .str x => (bif lEq (fun a b => decide (a = b)) s x then some [] else none) | _ => none
  | .it l, v => match v with | .it l' => (bif Nat.beq l l' then some [] else none) | _ => none
def matchPs : List PP → List PV → Option (List HV)
  | [], l => match l with | [] => some [] | _ => none
  | p :: ps, l => match l with | v :: vs => app (matchP p v) (matchPs ps vs) | _ => none
end
def stEq : LoopState → LoopState → Bool
  | .ready, .ready => true
  | .busy, .busy => true
  | .done, .done => true
  | .exhausted, .exhausted => true
  | _, _ => false
def matchB : BP → Blk → Option (List HV)
  | .dead, b => match b with | .dead => some [] | _ => none
  | .cells us, b => match b with | .cells vs => matchPs us vs | _ => none
  | .row e t ver, b => match b with | .row e' t' xs u => (bif Nat.beq e e' then (match cast? (.sl t') (.sl t) xs with | some ys => app (some [.d (.sl t) ys]) (matchN ver u) | none => none) else none) | _ => none
  | .loop l, b => match b with | .loop r => (bif stEq l.state r.state && oEq codeEq l.pending r.pending && Nat.beq l.fno r.fno && lEq nEq l.params r.params && codeEq l.assign r.assign && codeEq l.body r.body then matchPs l.tmps r.tmps else none) | _ => none
  | .defs, b => match b with | .defs => some [] | _ => none
  | .iter pos, b => match b with | .iter s p => app (some [.d .str s]) (matchN pos p) | _ => none
def matchBs : List BP → List Blk → Option (List HV)
  | [], l => match l with | [] => some [] | _ => none
  | p :: ps, l => match l with | v :: vs => app (matchB p v) (matchBs ps vs) | _ => none
def matchS (p : SP) (σ : St) : Option (List HV) := match σ.wl with
  | [] => bif lEq nEq p.df σ.df then app (matchPs p.ts σ.ts) (matchBs p.h σ.h) else none
  | _ => none

/-! ### Filling -/
def popN : List HV → Nat × List HV
  | .n k :: r => (k, r)
  | r => (0, r)
def popD (t : Ty) : List HV → t.den × List HV
  | .d t' x :: r => match cast? t' t x with
    | some y => (y, r)
    | none => (dflt t, r)
  | r => (dflt t, r)
def fillN : NP → List HV → Nat × List HV
  | .k n, r => (n, r)
  | .h, r => popN r
mutual
def fillP : PP → List HV → PV × List HV
  | .un, r => (.un, r)
  | .hole t, r => (.d t (popD t r).1, (popD t r).2)
  | .nsl, r => (.nsl, r)
  | .ag us, r => (.ag (fillPs us r).1, (fillPs us r).2)
  | .tu us, r => (.tu (fillPs us r).1, (fillPs us r).2)
  | .pt b i, r => (.pt b i, r)
  | .pe b i ver j q, r => (.pe b i (fillN ver r).1 (fillN j (fillN ver r).2).1 q, (fillN j (fillN ver r).2).2)
  | .ce t q, r => (.ce t (popD t r).1 q, (popD t r).2)
  | .np, r => (.np, r)
  | .ro b ver off len, r => (.ro b (fillN ver r).1 (fillN off (fillN ver r).2).1 (fillN len (fillN off (fillN ver r).2).2).1, (fillN len (fillN off (fillN ver r).2).2).2)
  | .ar b i off len, r => (.ar b i (fillN off r).1 (fillN len (fillN off r).2).1, (fillN len (fillN off r).2).2)
  | .fn f caps, r => (.fn f (fillPs caps r).1, (fillPs caps r).2)
  | .yl l, r => (.yl l, r)
  | .nf, r => (.nf, r)
  | .ic t p, r => (.ic t (fillP p r).1, (fillP p r).2)
  | .ni, r => (.ni, r)
  | .nm, r => (.nm, r)
  | .it l, r => (.it l, r)
  | .cb b, r => (.d .bool b, r)
  | .ci k n, r => (.d (.int k) n, r)
  | .cs s, r => (.d .str s, r)
def fillPs : List PP → List HV → List PV × List HV
  | [], r => ([], r)
  | p :: ps, r => ((fillP p r).1 :: (fillPs ps (fillP p r).2).1, (fillPs ps (fillP p r).2).2)
end
def fillB : BP → List HV → Blk × List HV
  | .dead, r => (.dead, r)
  | .cells us, r => (.cells (fillPs us r).1, (fillPs us r).2)
  | .row e t ver, r => (.row e t (popD (.sl t) r).1 (fillN ver (popD (.sl t) r).2).1, (fillN ver (popD (.sl t) r).2).2)
  | .loop l, r => (.loop { state := l.state, pending := l.pending, fno := l.fno, tmps := (fillPs l.tmps r).1, params := l.params, assign := l.assign, body := l.body }, (fillPs l.tmps r).2)
  | .defs, r => (.defs, r)
  | .iter pos, r => (.iter (popD .str r).1 (fillN pos (popD .str r).2).1, (fillN pos (popD .str r).2).2)
def fillBs : List BP → List HV → List Blk × List HV
  | [], r => ([], r)
  | p :: ps, r => ((fillB p r).1 :: (fillBs ps (fillB p r).2).1, (fillBs ps (fillB p r).2).2)
def fillS (p : SP) (l : List HV) : St := { ts := (fillPs p.ts l).1, h := (fillBs p.h (fillPs p.ts l).2).1, df := p.df, wl := [] }
def fillH (p : SP) (ts : List HT) (v : DenH ts) : St := fillS p (encH ts v)

/-! ### What is matched is filled -/
theorem app_some {a b : Option (List HV)} {l : List HV} (h : app a b = some l) : ∃ x y, a = some x ∧ b = some y ∧ l = x ++ y := by
  unfold app at h
  split at h
  · split at h
    · injection h with h; exact ⟨_, _, rfl, rfl, h.symm⟩
    · cases h
  · cases h
theorem popD_cons {t : Ty} {x : t.den} {r : List HV} : popD t (.d t x :: r) = (x, r) := by
  simp [popD, cast?]
theorem fillN_ok : ∀ (p : NP) (m : Nat) (l : List HV), matchN p m = some l → ∀ r, fillN p (l ++ r) = (m, r)
  | .k n, m, l, h, r => by
    simp only [matchN] at h
    cases hb : Nat.beq n m with
    | false => rw [hb] at h; cases h
    | true => rw [hb] at h; injection h with h; subst h; rw [fillN, Nat.eq_of_beq_eq_true hb]; rfl
  | .h, m, l, h, r => by
    simp only [matchN, Option.some.injEq] at h
    subst h
    rfl

theorem and_some {b : Bool} {x : Option (List HV)} {l : List HV} (h : (bif b then x else none) = some l) : b = true ∧ x = some l := by
  cases b with
  | false => cases h
  | true => exact ⟨rfl, h⟩

mutual
theorem fillP_ok : ∀ (p : PP) (v : PV) (l : List HV), matchP p v = some l → ∀ r, fillP p (l ++ r) = (v, r)
  | .un, v, l, h, r => by cases v <;> simp only [matchP, Option.some.injEq, reduceCtorEq] at h; subst h; rfl
  | .nsl, v, l, h, r => by cases v <;> simp only [matchP, Option.some.injEq, reduceCtorEq] at h; subst h; rfl
  | .np, v, l, h, r => by cases v <;> simp only [matchP, Option.some.injEq, reduceCtorEq] at h; subst h; rfl
  | .nf, v, l, h, r => by cases v <;> simp only [matchP, Option.some.injEq, reduceCtorEq] at h; subst h; rfl
  | .ni, v, l, h, r => by cases v <;> simp only [matchP, Option.some.injEq, reduceCtorEq] at h; subst h; rfl
  | .nm, v, l, h, r => by cases v <;> simp only [matchP, Option.some.injEq, reduceCtorEq] at h; subst h; rfl
  | .hole t, v, l, h, r => by
    cases v <;> simp only [matchP, reduceCtorEq] at h
    rename_i t' x
    split at h
    · rename_i y hy
      injection h with h
      subst h
      obtain ⟨e, hx⟩ := cast?_some hy
      subst e hx
      rw [fillP, List.cons_append, List.nil_append, popD_cons]
    · cases h
  | .ce t q, v, l, h, r => by
    cases v <;> simp only [matchP, reduceCtorEq] at h
    rename_i t' x q'
    obtain ⟨hb, hk⟩ := and_some h
    have hb := Nat.eq_of_beq_eq_true hb
    subst hb
    split at hk
    · rename_i y hy
      injection hk with hk
      subst hk
      obtain ⟨e, hx⟩ := cast?_some hy
      subst e hx
      rw [fillP, List.cons_append, List.nil_append, popD_cons]
    · cases hk
  | .ag us, v, l, h, r => by
    cases v <;> simp only [matchP, reduceCtorEq] at h
    rw [fillP, fillPs_ok us _ l h r]
  | .tu us, v, l, h, r => by
    cases v <;> simp only [matchP, reduceCtorEq] at h
    rw [fillP, fillPs_ok us _ l h r]
  | .pt b i, v, l, h, r => by
    cases v <;> simp only [matchP, reduceCtorEq] at h
    obtain ⟨hb, hk⟩ := and_some h
    simp only [Bool.and_eq_true] at hb
    have h1 := Nat.eq_of_beq_eq_true hb.1
    have h2 := Nat.eq_of_beq_eq_true hb.2
    injection hk with hk
    subst h1 h2 hk
    rfl
  | .pe b i ver j q, v, l, h, r => by
    cases v <;> simp only [matchP, reduceCtorEq] at h
    obtain ⟨hb, hk⟩ := and_some h
    simp only [Bool.and_eq_true] at hb
    have h1 := Nat.eq_of_beq_eq_true hb.1.1
    have h2 := Nat.eq_of_beq_eq_true hb.1.2
    have h3 := Nat.eq_of_beq_eq_true hb.2
    obtain ⟨x, y, e1, e2, rfl⟩ := app_some hk
    subst h1 h2 h3
    rw [List.append_assoc, fillP, fillN_ok _ _ _ e1, fillN_ok _ _ _ e2]
  | .ro b ver off len, v, l, h, r => by
    cases v <;> simp only [matchP, reduceCtorEq] at h
    obtain ⟨hb, hk⟩ := and_some h
    have h1 := Nat.eq_of_beq_eq_true hb
    obtain ⟨x, y, e1, hk2, rfl⟩ := app_some hk
    obtain ⟨z, w, e2, e3, rfl⟩ := app_some hk2
    subst h1
    rw [List.append_assoc, List.append_assoc, fillP, fillN_ok _ _ _ e1, fillN_ok _ _ _ e2, fillN_ok _ _ _ e3]
  | .ar b i off len, v, l, h, r => by
    cases v <;> simp only [matchP, reduceCtorEq] at h
    obtain ⟨hb, hk⟩ := and_some h
    simp only [Bool.and_eq_true] at hb
    have h1 := Nat.eq_of_beq_eq_true hb.1
    have h2 := Nat.eq_of_beq_eq_true hb.2
    obtain ⟨x, y, e1, e2, rfl⟩ := app_some hk
    subst h1 h2
    rw [List.append_assoc, fillP, fillN_ok _ _ _ e1, fillN_ok _ _ _ e2]
  | .fn f caps, v, l, h, r => by
    cases v <;> simp only [matchP, reduceCtorEq] at h
    obtain ⟨hb, hk⟩ := and_some h
    have h1 := Nat.eq_of_beq_eq_true hb
    subst h1
    rw [fillP, fillPs_ok caps _ l hk r]
  | .yl b, v, l, h, r => by
    cases v <;> simp only [matchP, reduceCtorEq] at h
    obtain ⟨hb, hk⟩ := and_some h
    have h1 := Nat.eq_of_beq_eq_true hb
    injection hk with hk
    subst h1 hk
    rfl
  | .cb b, v, l, h, r => by
    unfold matchP at h
    split at h
    · obtain ⟨hb, hk⟩ := and_some h
      have h1 := bEq_ok _ _ hb
      injection hk with hk
      subst h1 hk
      rfl
    · cases h
  | .ci k n, v, l, h, r => by
    unfold matchP at h
    split at h
    · obtain ⟨hb, hk⟩ := and_some h
      simp only [Bool.and_eq_true, decide_eq_true_eq] at hb
      obtain ⟨h1, h2⟩ := hb
      injection hk with hk
      subst h1 h2 hk
      rfl
    · cases h
  | .cs s, v, l, h, r => by
    unfold matchP at h
    split at h
    · obtain ⟨hb, hk⟩ := and_some h
      have h1 := lEq_ok (fun a b h => of_decide_eq_true h) hb
      injection hk with hk
      subst h1 hk
      rfl
    · cases h
  | .it b, v, l, h, r => by
    cases v <;> simp only [matchP, reduceCtorEq] at h
    obtain ⟨hb, hk⟩ := and_some h
    have h1 := Nat.eq_of_beq_eq_true hb
    injection hk with hk
    subst h1 hk
    rfl
  | .ic t p, v, l, h, r => by
    cases v <;> simp only [matchP, reduceCtorEq] at h
    obtain ⟨hb, hk⟩ := and_some h
    have h1 := Nat.eq_of_beq_eq_true hb
    subst h1
    rw [fillP, fillP_ok p _ l hk r]
theorem fillPs_ok : ∀ (ps : List PP) (vs : List PV) (l : List HV), matchPs ps vs = some l → ∀ r, fillPs ps (l ++ r) = (vs, r)
  | [], vs, l, h, r => by cases vs <;> simp only [matchPs, Option.some.injEq, reduceCtorEq] at h; subst h; rfl
  | p :: ps, vs, l, h, r => by
    cases vs with
    | nil => simp [matchPs] at h
    | cons v vs =>
      rw [matchPs] at h
      obtain ⟨x, y, e1, e2, rfl⟩ := app_some h
      rw [List.append_assoc, fillPs, fillP_ok p v x e1, fillPs_ok ps vs y e2]
end

theorem stEq_ok (a b : LoopState) (h : stEq a b = true) : a = b := by cases a <;> cases b <;> first | rfl | cases h
theorem fillB_ok : ∀ (p : BP) (v : Blk) (l : List HV), matchB p v = some l → ∀ r, fillB p (l ++ r) = (v, r)
  | .dead, v, l, h, r => by cases v <;> simp only [matchB, Option.some.injEq, reduceCtorEq] at h; subst h; rfl
  | .defs, v, l, h, r => by cases v <;> simp only [matchB, Option.some.injEq, reduceCtorEq] at h; subst h; rfl
  | .cells us, v, l, h, r => by
    cases v <;> simp only [matchB, reduceCtorEq] at h
    rw [fillB, fillPs_ok us _ l h r]
  | .row e t ver, v, l, h, r => by
    cases v <;> simp only [matchB, reduceCtorEq] at h
    rename_i e' t' xs u
    obtain ⟨hb, hk⟩ := and_some h
    have hb := Nat.eq_of_beq_eq_true hb
    subst hb
    split at hk
    · rename_i ys hy
      obtain ⟨x, y, e1, e2, rfl⟩ := app_some hk
      injection e1 with e1
      subst e1
      obtain ⟨e, hx⟩ := cast?_some hy
      injection e with e
      subst e
      simp only at hx
      subst hx
      rw [fillB, List.cons_append, List.nil_append, List.cons_append, popD_cons, fillN_ok _ _ _ e2]
    · cases hk
  | .loop p, v, l, h, r => by
    cases v <;> simp only [matchB, reduceCtorEq] at h
    rename_i q
    obtain ⟨hb, hk⟩ := and_some h
    simp only [Bool.and_eq_true] at hb
    obtain ⟨⟨⟨⟨⟨h1, h2⟩, h3⟩, h4⟩, h5⟩, h6⟩ := hb
    rw [fillB, fillPs_ok p.tmps _ l hk r]
    have h1 := stEq_ok _ _ h1
    have h2 := oEq_ok codeEq_ok h2
    have h3 := Nat.eq_of_beq_eq_true h3
    have h4 := lEq_ok nEq_ok h4
    have h5 := codeEq_ok _ _ h5
    have h6 := codeEq_ok _ _ h6
    cases q
    simp only at h1 h2 h3 h4 h5 h6 ⊢
    rw [h1, h2, h3, h4, h5, h6]
  | .iter pos, v, l, h, r => by
    cases v <;> simp only [matchB, reduceCtorEq] at h
    rename_i s p
    obtain ⟨x, y, e1, e2, rfl⟩ := app_some h
    injection e1 with e1
    subst e1
    rw [fillB, List.cons_append, List.nil_append, List.cons_append, popD_cons, fillN_ok _ _ _ e2]
theorem fillBs_ok : ∀ (ps : List BP) (vs : List Blk) (l : List HV), matchBs ps vs = some l → ∀ r, fillBs ps (l ++ r) = (vs, r)
  | [], vs, l, h, r => by cases vs <;> simp only [matchBs, Option.some.injEq, reduceCtorEq] at h; subst h; rfl
  | p :: ps, vs, l, h, r => by
    cases vs with
    | nil => simp [matchBs] at h
    | cons v vs =>
      rw [matchBs] at h
      obtain ⟨x, y, e1, e2, rfl⟩ := app_some h
      rw [List.append_assoc, fillBs, fillB_ok p v x e1, fillBs_ok ps vs y e2]
theorem fillS_ok (p : SP) (σ : St) (l : List HV) (h : matchS p σ = some l) : fillS p l = σ := by
  unfold matchS at h
  split at h
  · rename_i hw
    obtain ⟨hb, h⟩ := and_some h
    have hd := lEq_ok nEq_ok hb
    obtain ⟨x, y, e1, e2, rfl⟩ := app_some h
    have h1 := fillPs_ok _ _ _ e1 y
    have h2 := fillBs_ok _ _ _ e2 []
    rw [List.append_nil] at h2
    cases σ
    simp only at hw hd h1 h2
    simp only [fillS, h1, h2, hd, hw]
  · cases h
theorem fillH_ok (p : SP) (ts : List HT) (σ : St) (l : List HV) (v : DenH ts) (h : matchS p σ = some l) (hd : decH ts l = some v) : fillH p ts v = σ := by
  unfold fillH
  rw [decH_ok ts l v hd]
  exact fillS_ok p σ l h

end Go.Fy

set_option linter.unusedVariables false
set_option linter.unusedSimpArgs false
namespace Go.Fy
open Go.RowKit

section
variable {ρ : Type} (E : Env)

def storeK (h : List Blk) (ti : TI) (p v : PV) (K : List Blk → Nat → Option ρ) : Option ρ :=
  match p with
  | .pe b i ver j q => match h[b]? with
    | some (.row e t xs u) => match unitsOf ti v with
      | none => none
      | some vs => bif vs.all known then (if ver = u then (if ((tsh t).drop q).take vs.length = ti.shs then (match setU t (xs.getD j (dflt t)) q vs with
          | some y => K (h.set b (.row e t (xs.set j y) u)) b
          | none => none) else none) else none) else none
    | _ => match storeA h ti p v with
      | some (h', b) => K h' b
      | none => none
  | p => match storeA h ti p v with
    | some (h', b) => K h' b
    | none => none
def fieldAddrK (h : List Blk) (ti : TI) (p : PV) (f : Nat) (K : PV → Option ρ) : Option ρ :=
  match p with
  | .pe b i ver j q => match h[b]? with
    | some (.row _ t _ u) => match ti.kind with
      | .st fs => match fs[f]? with
        | some (k, _, _) => if ver = u then (if ((tsh t).drop q).take ti.shs.length = ti.shs then K (.pe b i ver j (q + k)) else none) else none
        | none => none
      | _ => none
    | _ => match fieldAddrA h ti p f with
      | some v => K v
      | none => none
  | p => match fieldAddrA h ti p f with
    | some v => K v
    | none => none
def lenK (h : List Blk) (ti : TI) (x : PV) (K : Nat → Option ρ) : Option ρ :=
  match x with
  | .ro b ver _ len => match ti.kind with
    | .sl _ => match h[b]? with
      | some (.row _ _ _ u) => if ver = u then K len else none
      | _ => none
    | .arr n _ => K n
    | .ptr e => match kindOf E e with
      | .arr n _ => K n
      | _ => none
    | _ => none
  | x => match lenA E h ti x with
    | some n => K n
    | none => none
def rowK (h : List Blk) (p : PV) (K : (t : Ty) → List t.den → Option ρ) : Option ρ :=
  match p with
  | .ro b ver off len => match h[b]? with
    | some (.row _ t xs u) => if ver = u then K t ((xs.drop off).take len) else none
    | _ => none
  | p => match rowOf h p with
    | some ⟨t, xs⟩ => K t xs
    | none => none
def newsK (h : List Blk) (x : PV) (t : Ty) (K : List t.den → Option ρ) : Option ρ :=
  match x with
  | .ro .. => rowK h x fun t' ys => match cast? (.sl t') (.sl t) ys with
    | some ys => K ys
    | none => none
  | x => match newsOf h x t with
    | some ys => K ys
    | none => none
def appendK (h : List Blk) (ty tx : Nat) (s x : PV) (K : PV → List Blk → List Nat → Option ρ) : Option ρ :=
  match E.tt ty with
  | none => none
  | some ti => match ti.kind with
    | .sl e => match E.tt e with
      | none => none
      | some te => bif srcTy E tx then match s with
        | .nsl => match te.ty with
          | none => none
          | some t => newsK h x t fun ys => if ys.isEmpty = true then K .nsl h [] else (if 0 < t.sz ∧ 0 < te.bytes ∧ ys.length * te.bytes ≤ 140737488355328 then K (.ro h.length 0 0 ys.length) (h ++ [.row e t ys 0]) [] else none)
        | .ro b ver off len => match h[b]? with
          | some (.row e' t xs u) => if ver = u then (if off = 0 then (if e' = e ∧ te.ty = some t then newsK h x t (fun ys => if 0 < te.bytes ∧ (len + ys.length) * te.bytes ≤ 140737488355328 then K (.ro b (u + 1) 0 (len + ys.length)) (h.set b (.row e t (xs.take len ++ ys) (u + 1))) [b] else none) else none) else none) else none
          | _ => none
        | _ => none
        else none
    | _ => none
def toDK (h : List Blk) (t : Ty) (p : PV) (K : t.den → Option ρ) : Option ρ := match p with
  | .ro b ver off len => rowK h (.ro b ver off len) fun t' xs => match cast? (.sl t') t xs with
    | some x => K x
    | none => none
  | p => match toD h t p with
    | some x => K x
    | none => none
def toDsK (h : List Blk) : (ts : List Ty) → List PV → (DenL ts → Option ρ) → Option ρ
  | [], [], K => K ()
  | t :: ts, p :: ps, K => toDK h t p fun x => toDsK h ts ps fun xs => K (x, xs)
  | _, _, _ => none

theorem storeK_eq (h : List Blk) (ti : TI) (p v : PV) (K : List Blk → Nat → Option ρ) : storeK h ti p v K = match storeA h ti p v with
    | some (h', b) => K h' b
    | none => none := by
  unfold storeK
  split
  · rename_i b i ver j q
    split
    · rename_i e t xs u hb
      unfold storeA
      cases hu : unitsOf ti v with
      | none => rfl
      | some vs =>
        simp only [hb]
        cases hk : vs.all known with
        | false => rfl
        | true =>
          simp only [cond_true]
          split
          · split
            · cases setU t (xs.getD j (dflt t)) q vs <;> rfl
            · rfl
          · rfl
    · rfl
  · rfl
theorem fieldAddrK_eq (h : List Blk) (ti : TI) (p : PV) (f : Nat) (K : PV → Option ρ) : fieldAddrK h ti p f K = match fieldAddrA h ti p f with
    | some v => K v
    | none => none := by
  unfold fieldAddrK
  split
  · rename_i b i ver j q
    split
    · rename_i e t xs u hb
      unfold fieldAddrA
      cases ti.kind <;> try rfl
      rename_i fs
      dsimp only
      cases fs[f]? with
      | none => rfl
      | some y =>
        obtain ⟨k, y1, y2⟩ := y
        simp only [hb]
        split
        · split <;> rfl
        · rfl
    · rfl
  · rfl
theorem lenK_eq (h : List Blk) (ti : TI) (x : PV) (K : Nat → Option ρ) : lenK E h ti x K = match lenA E h ti x with
    | some n => K n
    | none => none := by
  unfold lenK
  split
  · rename_i b ver off len
    unfold lenA
    cases ti.kind <;> try rfl
    · rename_i e
      dsimp only
      cases kindOf E e <;> rfl
    · rename_i e
      dsimp only
      cases hb : h[b]? with
      | none => rfl
      | some y =>
        cases y <;> try rfl
        dsimp only
        split <;> rfl
  · rfl
theorem rowK_eq (h : List Blk) (p : PV) (K : (t : Ty) → List t.den → Option ρ) : rowK h p K = match rowOf h p with
    | some ⟨t, xs⟩ => K t xs
    | none => none := by
  unfold rowK
  split
  · rename_i b ver off len
    unfold rowOf
    dsimp only
    cases hb : h[b]? with
    | none => rfl
    | some y =>
      cases y <;> try rfl
      dsimp only
      split <;> rfl
  · rfl
theorem newsK_eq (h : List Blk) (x : PV) (t : Ty) (K : List t.den → Option ρ) : newsK h x t K = match newsOf h x t with
    | some ys => K ys
    | none => none := by
  unfold newsK
  split
  · rename_i b ver off len
    rw [rowK_eq]
    unfold newsOf
    dsimp only
    cases rowOf h (.ro b ver off len) with
    | none => rfl
    | some y => rfl
  · rfl
theorem appendK_eq (h : List Blk) (ty tx : Nat) (s x : PV) (K : PV → List Blk → List Nat → Option ρ) : appendK E h ty tx s x K = appendA E h ty tx s x K := by
  unfold appendK appendA
  cases E.tt ty with
  | none => rfl
  | some ti =>
    dsimp only
    cases ti.kind <;> try rfl
    rename_i e
    dsimp only
    cases E.tt e with
    | none => rfl
    | some te =>
      dsimp only
      congr 1
      cases s <;> try rfl
      · dsimp only
        cases te.ty with
        | none => rfl
        | some t => dsimp only; rw [newsK_eq]; cases newsOf h x t <;> rfl
      · rename_i b ver off len
        dsimp only
        cases h[b]? with
        | none => rfl
        | some y =>
          cases y <;> try rfl
          rename_i e' t xs u
          dsimp only
          by_cases h1 : ver = u
          · by_cases h2 : off = 0
            · by_cases h3 : e' = e ∧ te.ty = some t
              · rw [if_pos h1, if_pos h2, if_pos h3, if_pos ⟨h1, h2, h3⟩, newsK_eq]
                cases newsOf h x t <;> rfl
              · rw [if_pos h1, if_pos h2, if_neg h3, if_neg (fun hh => h3 hh.2.2)]
            · rw [if_pos h1, if_neg h2, if_neg (fun hh => h2 hh.2.1)]
          · rw [if_neg h1, if_neg (fun hh => h1 hh.1)]
theorem toDK_eq (h : List Blk) (t : Ty) (p : PV) (K : t.den → Option ρ) : toDK h t p K = match toD h t p with
    | some x => K x
    | none => none := by
  unfold toDK
  split
  · rename_i b ver off len
    rw [rowK_eq]
    unfold toD
    dsimp only
    cases rowOf h (.ro b ver off len) with
    | none => rfl
    | some y => rfl
  · rfl
theorem toDsK_eq (h : List Blk) : ∀ (ts : List Ty) (ps : List PV) (K : DenL ts → Option ρ), toDsK h ts ps K = match toDs h ts ps with
    | some x => K x
    | none => none
  | [], [], K => rfl
  | [], _ :: _, K => rfl
  | _ :: _, [], K => rfl
  | t :: ts, p :: ps, K => by
    rw [toDsK, toDK_eq, toDs]
    cases toD h t p with
    | none => rfl
    | some x =>
      dsimp only
      rw [toDsK_eq h ts ps]
      cases toDs h ts ps <;> rfl

variable (orc : Orc ρ)

def builtinK (b : Builtin) (ats : List Nat) (as : List PV) (h : List Blk) (K KP : KV ρ) : Option ρ :=
  match b with
  | .len => match ats, as with
    | ty :: _, [x] => match E.tt ty with
      | some ti => lenK E h ti x fun n => K (.d (.int .i64) (n : Int)) h []
      | none => none
    | _, _ => none
  | .append => match ats, as with
    | [ty, tx], [s, x] => appendK E h ty tx s x K
    | _, _ => none
  | b => builtinA E b ats as h K KP
theorem builtinK_eq (b : Builtin) (ats : List Nat) (as : List PV) (h : List Blk) (K KP : KV ρ) : builtinK E b ats as h K KP = builtinA E b ats as h K KP := by
  unfold builtinK
  split
  · split
    · rename_i ty r x
      unfold builtinA
      dsimp only
      cases E.tt ty with
      | none => rfl
      | some ti => dsimp only; rw [lenK_eq]; cases lenA E h ti x <;> rfl
    · rename_i hn
      unfold builtinA
      split <;> first | rfl | (rename_i he; cases he) | skip
      exact (hn _ _ _ rfl rfl).elim
  · split
    · rename_i ty tx s x
      unfold builtinA
      dsimp only
      exact appendK_eq E h ty tx s x K
    · rename_i hn
      unfold builtinA
      split <;> first | rfl | (rename_i he; cases he) | skip
      exact (hn _ _ _ _ rfl rfl).elim
  · rfl

def binOpK (op : BinOp) (ty : Nat) (k : Bool) (x y : PV) (K : PV → Option ρ) : Option ρ :=
  match x, y with
  | .d (.sl t) xs, .nsl => match E.tt ty with
    | some ti => match ti.kind with
      | .sl _ => if xs.isEmpty = true then none else eqR op false K
      | _ => binOpA E op ty k (.d (.sl t) xs) .nsl K
    | none => none
  | x, y => binOpA E op ty k x y K
theorem binOpK_eq (op : BinOp) (ty : Nat) (k : Bool) (x y : PV) (K : PV → Option ρ) : binOpK E op ty k x y K = binOpA E op ty k x y K := by
  unfold binOpK
  split
  · rename_i t xs
    cases ht : E.tt ty with
    | none => simp [binOpA, nilEqT, ht]
    | some ti =>
      dsimp only
      split
      · rename_i e hk
        by_cases hx : xs.isEmpty = true
        · simp [binOpA, nilEqT, ht, hk, nil2, nilS, hx]
        · simp [binOpA, nilEqT, ht, hk, nil2, nilS, hx]
      · rfl
  · rfl

def evOpL (ts : List PV) (h : List Blk) (o : Oper) (K KP : KV ρ) : Option ρ :=
  match o.op with
  | .store t a x => match E.tt t with
    | some ti => storeK h ti (opd E ts a) (opd E ts x) fun h' b => K .un h' [b]
    | none => none
  | .fieldAddr t x f => match E.tt t with
    | some ti => fieldAddrK h ti (opd E ts x) f fun v => K v h []
    | none => none
  | .binOp op t x y _ => binOpK E op t (isK x || isK y) (opd E ts x) (opd E ts y) fun v => K v h []
  | .call c => match c.callee with
    | .builtin b => builtinK E b c.argTypes.toList (c.args.toList.map (opd E ts)) h K KP
    | _ => evOp E orc ts h o K KP
  | _ => evOp E orc ts h o K KP
theorem evOpL_eq (ts : List PV) (h : List Blk) (o : Oper) (K KP : KV ρ) : evOpL E orc ts h o K KP = evOp E orc ts h o K KP := by
  unfold evOpL
  split
  · rename_i t a x ho
    unfold evOp
    simp only [ho]
    cases E.tt t with
    | none => rfl
    | some ti =>
      dsimp only
      rw [storeK_eq]
      cases storeA h ti (opd E ts a) (opd E ts x) <;> rfl
  · rename_i t x f ho
    unfold evOp
    simp only [ho]
    cases E.tt t with
    | none => rfl
    | some ti =>
      dsimp only
      rw [fieldAddrK_eq]
      cases fieldAddrA h ti (opd E ts x) f <;> rfl
  · rename_i op t x y u ho
    unfold evOp
    simp only [ho]
    exact binOpK_eq E op t _ _ _ _
  · rename_i c ho
    split
    · rename_i b hc
      unfold evOp
      simp only [ho, hc]
      exact builtinK_eq E b _ _ h K KP
    · rfl
  · rfl

def evGL (all : List Oper) (ts : List PV) (h : List Blk) (o : Oper) (K : List PV → List Blk → List Nat → Option ρ) (KP : KV ρ) : Option ρ :=
  let run (ts : List PV) : Option ρ := evOpL E orc ts h o (fun v h' lg => K (putT ts o.dst v) h' lg) KP
  match o.guard with
  | none => run ts
  | some (j, want) => match (all[j]?).bind (·.dst) with
    | none => none
    | some t => match ts.getD t .un with
      | .d .bool b =>
        let skip (ts : List PV) : Option ρ := K (putT ts o.dst (.tu [])) h []
        bif want then (bif b then run (ts.set t (.d .bool true)) else skip (ts.set t (.d .bool false)))
        else (bif b then skip (ts.set t (.d .bool true)) else run (ts.set t (.d .bool false)))
      | .tu [] => K (putT ts o.dst (.tu [])) h []
      | _ => none
theorem evGL_eq (all : List Oper) (ts : List PV) (h : List Blk) (o : Oper) (K : List PV → List Blk → List Nat → Option ρ) (KP : KV ρ) : evGL E orc all ts h o K KP = evG E orc all ts h o K KP := by
  unfold evGL evG
  simp only [evOpL_eq]
  rfl

def evOpsL (all : List Oper) : List Oper → List PV → List Blk → List Nat → (List PV → List Blk → List Nat → Option ρ) → KV ρ → Option ρ
  | [], ts, h, lg, K, _ => K ts h lg
  | o :: r, ts, h, lg, K, KP => evGL E orc all ts h o (fun ts' h' _ => evOpsL all r ts' h' lg K KP) (fun v h' _ => KP v h' lg)
theorem evOpsL_eq (all : List Oper) : ∀ (l : List Oper) (ts : List PV) (h : List Blk) (lg : List Nat) (K : List PV → List Blk → List Nat → Option ρ) (KP : KV ρ), evOpsL E orc all l ts h lg K KP = evOps E orc all l ts h lg K KP
  | [], ts, h, lg, K, KP => rfl
  | o :: r, ts, h, lg, K, KP => by
    rw [evOpsL, evOps, evGL_eq]
    congr 1
    funext ts' h' _
    exact evOpsL_eq all r ts' h' lg K KP

end
end Go.Fy

set_option linter.unusedVariables false
set_option linter.unusedSimpArgs false
namespace Go.Fy
open Go.RowKit

/-- A loop by a pattern of its state: what it comes to. -/
structure LE : Type 1 where
  code : Code
  inR : Bool
  pat : SP
  hs : List HT
  need : Nat
  run : (ρ : Type) → Nat → DenH hs → (Ex → St → Option ρ) → Option ρ
/-- A function of data: what it asks, and what it tells. -/
structure CP where
  args : List Ty
  res : List Ty
  pre : DenL args → Bool
  spec : DenL args → DenL res
def CP.con (c : CP) : Con := { args := c.args, res := c.res, fn := fun xs => bif c.pre xs then some (.ret (c.spec xs)) else none }
structure Tb : Type 1 where
  lp : Nat → Nat → List LE
  cp : Nat → Option CP

def callCP {ρ : Type} (c : CP) (as : List PV) (h : List Blk) (K : KO ρ) : Option ρ :=
  toDsK h c.args as fun xs => bif c.pre xs then
    (bif c.res.all noSl then K (.ret (one (ofRes c.res (c.spec xs)))) h []
    else bif as.any isAr then none else K (.ret (one (ofRes c.res (c.spec xs)))) (freeze h as).1 (freeze h as).2) else none

theorem callCP_eq {ρ : Type} (c : CP) (as : List PV) (h : List Blk) (K : KO ρ) : callCP c as h K = callCon c.con as h K := by
  unfold callCP callCon
  rw [toDsK_eq]
  simp only [CP.con]
  cases toDs h c.args as with
  | none => rfl
  | some xs =>
    dsimp only
    cases c.pre xs <;> cases c.res.all noSl <;> cases as.any isAr <;> rfl

section
variable {ρ : Type} (T : Tb) (d : Nat) (E : Env) (orc : Orc ρ)

def pickL (k : Nat) (inR : Bool) (c : Code) (σ : St) (K : Ex → St → Option ρ) : List LE → Option (Option ρ)
  | [] => none
  | e :: r => match matchS e.pat σ with
    | some l => match decH e.hs l with
      | some v => bif Nat.ble e.need d && (bEq inR e.inR && codeEq c e.code) then some (e.run ρ k v K) else pickL k inR c σ K r
      | none => pickL k inR c σ K r
    | none => pickL k inR c σ K r

def evCodeL (inR : Bool) (fno : Nat) (k : Nat) : Code → St → (Ex → St → Option ρ) → Option ρ
  | .skip, σ, K => K .normal σ
  | .label _, σ, K => K .normal σ
  | .region id ops true, σ, K => match E.re fno id ops σ.ts σ.h with
    | some q => K .normal { σ with ts := q.1, h := q.2.1, wl := σ.wl ++ q.2.2 }
    | none => bif E.dr fno id then
      evOpsL E orc ops.toList ops.toList σ.ts σ.h [] (fun ts h l => K .normal { σ with ts := ts, h := h, wl := σ.wl ++ l }) (fun _ _ _ => none) else none
  | .region _ ops false, σ, K =>
      evOpsL E orc ops.toList ops.toList σ.ts σ.h [] (fun ts h l => K .normal { σ with ts := ts, h := h, wl := σ.wl ++ l }) (fun v h l => K (.panic v) { σ with h := h, wl := σ.wl ++ l })
  | .seq a b, σ, K => evCodeL inR fno k a σ fun x σ' => match x with
    | .normal => evCodeL inR fno k b σ' K
    | x => K x σ'
  | .cond c a b, σ, K => match opd E σ.ts c with
    | .d .bool t => bif t then evCodeL inR fno k a σ K else evCodeL inR fno k b σ K
    | _ => none
  | .block id c, σ, K => evCodeL inR fno k c σ fun x σ' => match x with
    | .exit i => if i = id then K .normal σ' else K (.exit i) σ'
    | x => K x σ'
  | .loop c, σ, K => match pickL d k inR c (clr (E.kp fno (keyOf c)) σ) K (T.lp fno (keyOf c)) with
    | some x => x
    | none => evLoop (fun σ K => evCodeL inR fno k c σ K) (gcT (E.kp fno (keyOf c)) σ.h.length) k (clr (E.kp fno (keyOf c)) σ) (fun x σ' => K x (gcX (E.kp fno (keyOf c)) σ.h.length x σ'))
  | .rangeFunc g ps x y, σ, K => bif inR then none else match opd E σ.ts g with
    | .fn f caps => orc.call f (.yl (σ.h.length + 1) :: caps)
        (σ.h ++ [.defs, .loop { state := .ready, pending := none, fno := fno, tmps := clrT (E.kp fno (keyOf x)) σ.ts, params := ps.toList, assign := x, body := y }]) fun out h2 lg =>
        match h2[σ.h.length + 1]? with
        | some (.loop r) => match out with
          | .pan v => K (.panic v) { σ with h := h2, df := σ.h.length :: σ.df, wl := σ.wl ++ lg }
          | .ret _ => match r.state with
            | .busy => none
            | _ =>
              let σ' : St := { σ with h := h2.set (σ.h.length + 1) (.loop { r with state := .exhausted }), df := σ.h.length :: σ.df, wl := σ.wl ++ lg }
              match r.pending with
              | none => K .normal σ'
              | some .ret => K .ret σ'
              | some (.exit i) => K (.exit i) σ'
              | _ => none
        | _ => none
    | _ => none
  | .scope c, σ, K => evCodeL inR fno k c σ fun x σ' => match x with
    | .goto _ => none
    | x => K x σ'
  | .exit i, σ, K => K (.exit i) σ
  | .goto l, σ, K => K (.goto l) σ
  | .ret, σ, K => K .ret σ
  | _, _, _ => none

def evFnL (k : Nat) (f : Nat) (as : List PV) (h : List Blk) (K : KO ρ) : Option ρ :=
  match E.fn f with
  | none => none
  | some fn => match fn.body with
    | none => none
    | some c => evCodeL T d E orc false f k c { ts := as ++ List.replicate (fn.ntmps - as.length) .un, h := h, df := [], wl := [] } fun x σ =>
      match shut σ.h σ.df with
      | none => none
      | some h' =>
        let out (v : OutV) : Option ρ := K v (gcO h.length v h') (σ.wl.filter (fun b => decide (b < h.length)))
        let done : Option ρ := match resVs E σ.ts h' fn.results.toList with
          | some vs => out (.ret (one vs))
          | none => none
        match x with
        | .normal => done
        | .ret => done
        | .panic v => out (.pan v)
        | _ => none

def evRoundL (k : Nat) (l : Nat) (as : List PV) (h : List Blk) (K : KO ρ) : Option ρ :=
  match h[l]? with
  | some (.loop r) => if as.length = r.params.length ∧ drOk E.ok (E.dr r.fno) r.assign = true ∧ drOk E.ok (E.dr r.fno) r.body = true then
      evCodeL T d E orc true r.fno k r.assign { ts := setP r.tmps r.params as, h := h, df := [], wl := [] } fun x σ => match x with
        | .normal => match σ.h[l]? with
          | some (.loop r1) => match r1.state with
            | .ready => evCodeL T d E orc true r.fno k r.body { σ with h := σ.h.set l (.loop { r1 with state := .busy }) } fun x2 σ2 => match σ2.h[l]? with
              | some (.loop r2) =>
                let fin (j : Option Code) : Option ρ :=
                  K (.ret (.d .bool j.isNone)) (gcO h.length (.ret (.d .bool j.isNone)) (σ2.h.set l (.loop { r2 with state := if j.isNone then .ready else .done, pending := j }))) (l :: σ2.wl.filter (fun b => decide (b < h.length)))
                match x2 with
                | .normal => fin none
                | .ret => fin (some .ret)
                | .exit i => fin (some (.exit i))
                | _ => none
              | _ => none
            | _ => none
          | _ => none
        | _ => none
    else none
  | _ => none
end

def orcL {ρ : Type} (T : Tb) (E : Env) (k : Nat) : Nat → Orc ρ
  | 0 => { call := fun _ _ _ _ => none, round := fun _ _ _ _ => none }
  | d + 1 => { call := fun f as h K => (match T.cp f with
                | some c => callCP c as h K
                | none => evFnL T d E (orcL T E k d) k f as h K),
               round := fun l as h K => evRoundL T d E (orcL T E k d) k l as h K }

/-- The tables' loops are the code's. -/
def TbOk (T : Tb) (E : Env) (k : Nat) : Prop :=
  ∀ (fno key : Nat) (e : LE), e ∈ T.lp fno key → ∀ (ρ : Type) (d : Nat), e.need ≤ d → ∀ (v : DenH e.hs) (K : Ex → St → Option ρ),
    e.run ρ k v K = evLoop (fun σ K => evCodeL T d E (orcL T E k d) e.inR fno k e.code σ K) (gcT (E.kp fno (keyOf e.code)) e.pat.h.length) k (fillH e.pat e.hs v) (fun x σ' => K x (gcX (E.kp fno (keyOf e.code)) e.pat.h.length x σ'))

/-- The environment with the tables' contracts. -/
def Tb.env (T : Tb) (E : Env) : Env := { E with con := fun f => (T.cp f).map CP.con }

/-- What an oracle tells, another one tells too. -/
structure OrcRef {ρ : Type} (E1 : Env) (o o' : Orc ρ) : Prop where
  call : ∀ f as h (K : KO ρ) r, o.call f as h K = some r → ∃ out h' lg, K out h' lg = some r ∧ ∀ K' : KO ρ, (match E1.con f with | some c => callCon c as h K' | none => o'.call f as h K') = K' out h' lg
  iter : ∀ f l caps h (K : KO ρ) r, o.call f (.yl l :: caps) h K = some r → ∃ out h' lg, K out h' lg = some r ∧ ∀ K' : KO ρ, o'.call f (.yl l :: caps) h K' = K' out h' lg
  round : ∀ l as h (K : KO ρ) r, o.round l as h K = some r → ∃ out h' lg, K out h' lg = some r ∧ ∀ K', o'.round l as h K' = K' out h' lg

section
variable {ρ : Type} {r : ρ} {T : Tb} {E : Env} {o o' : Orc ρ} {k : Nat}

theorem fillA_env (fs : List (Nat × Nat × Nat)) : ∀ (ps : List (Nat × PV)) (us : List PV), fillA (T.env E) fs us ps = fillA E fs us ps
  | [], us => rfl
  | (i, p) :: r, us => by
    rw [fillA, fillA]
    simp only [fillA_env fs r]
    rfl
theorem buildA_env (ti : TI) (ps : List (Nat × PV)) : buildA (T.env E) ti ps = buildA E ti ps := by
  unfold buildA
  split
  · rw [fillA_env]
  · rfl
  · rfl

theorem op_same (o o' : Orc ρ) {ts : List PV} {h : List Blk} {op : Oper} (hn : ∀ c f, op.op = .call c → c.callee ≠ .value f) (K KP : KV ρ) : evOp E o ts h op K KP = evOp (T.env E) o' ts h op K KP := by
  unfold evOp
  split <;> first
    | rfl
    | skip
  · dsimp only
    show (match E.tt _ with | some ti => _ | none => _) = _
    simp only [buildA_env]
    rfl
  rename_i c hc
  cases hcc : c.callee with
  | value f => exact absurd hcc (hn c f hc)
  | builtin b => rfl
  | invoke a b => rfl

theorem op_ref (hcon : ∀ f, E.con f = none) (hX : OrcX o') (hO : OrcRef (T.env E) o o') {ts : List PV} {h : List Blk} {op : Oper} {K KP : KV ρ} (he : evOp E o ts h op K KP = some r) :
    (∃ v h' lg, K v h' lg = some r ∧ ∀ K' KP', evOp (T.env E) o' ts h op K' KP' = K' v h' lg) ∨ ∃ v h' lg, KP v h' lg = some r ∧ ∀ K' KP', evOp (T.env E) o' ts h op K' KP' = KP' v h' lg := by
  by_cases hn : ∀ c f, op.op = .call c → c.callee ≠ .value f
  · rw [op_same o o' hn] at he
    exact evOp_x hX he
  · have hn' : ∃ c f, op.op = .call c ∧ c.callee = .value f := by
      by_cases hq : ∃ c f, op.op = .call c ∧ c.callee = .value f
      · exact hq
      · exact absurd (fun c f h1 h2 => hq ⟨c, f, h1, h2⟩) hn
    obtain ⟨c, f, h1, h2⟩ := hn'
    unfold evOp at he ⊢
    simp only [h1, h2] at he ⊢
    rw [callA_eq] at he
    refine ko_x (F := fun K' KP' => callA (T.env E) o' (opd E ts f) (c.args.toList.map (opd E ts)) h K' KP') (G := koOf) (fun _ _ _ _ _ => rfl) (fun _ _ _ _ _ => rfl) ?_
    simp only [callA_eq]
    split at he
    · rename_i g caps hg
      rw [hcon g] at he
      dsimp only at he
      obtain ⟨a, b, l, k1, k2⟩ := hO.call _ _ _ _ _ he
      exact ⟨a, b, l, k1, fun K' KP' => by exact k2 _⟩
    · rename_i l hl
      obtain ⟨a, b, l', k1, k2⟩ := hO.round _ _ _ _ _ he
      exact ⟨a, b, l', k1, fun K' KP' => by exact k2 _⟩
    · cases he

theorem ops_ref (hcon : ∀ f, E.con f = none) (hX : OrcX o') (hO : OrcRef (T.env E) o o') {all : List Oper} : ∀ (l : List Oper) {ts : List PV} {h : List Blk} {lg : List Nat} {K : List PV → List Blk → List Nat → Option ρ} {KP : KV ρ}, evOps E o all l ts h lg K KP = some r →
    (∃ ts' h', K ts' h' lg = some r ∧ ∀ K' KP', evOps (T.env E) o' all l ts h lg K' KP' = K' ts' h' lg) ∨ ∃ v h', KP v h' lg = some r ∧ ∀ K' KP', evOps (T.env E) o' all l ts h lg K' KP' = KP' v h' lg
  | [], ts, h, lg, K, KP, he => .inl ⟨_, _, he, fun _ _ => rfl⟩
  | op :: l, ts, h, lg, K, KP, he => by
    have run : ∀ ts', evOps E o all (op :: l) ts h lg K KP = evOp E o ts' h op (fun v h' _ => evOps E o all l (putT ts' op.dst v) h' lg K KP) (fun v h' _ => KP v h' lg) →
        (∀ K' KP', evOps (T.env E) o' all (op :: l) ts h lg K' KP' = evOp (T.env E) o' ts' h op (fun v h' _ => evOps (T.env E) o' all l (putT ts' op.dst v) h' lg K' KP') (fun v h' _ => KP' v h' lg)) →
        (∃ ts' h', K ts' h' lg = some r ∧ ∀ K' KP', evOps (T.env E) o' all (op :: l) ts h lg K' KP' = K' ts' h' lg) ∨ ∃ v h', KP v h' lg = some r ∧ ∀ K' KP', evOps (T.env E) o' all (op :: l) ts h lg K' KP' = KP' v h' lg := by
      intro ts' h0 heq
      rw [h0] at he
      rcases op_ref hcon hX hO he with ⟨v, h', lg', h1, h2⟩ | ⟨v, h', lg', h1, h2⟩
      · rcases ops_ref hcon hX hO l h1 with ⟨ts'', h'', h3, h4⟩ | ⟨v', h'', h3, h4⟩
        · exact .inl ⟨ts'', h'', h3, fun K' KP' => by rw [heq, h2]; exact h4 K' KP'⟩
        · exact .inr ⟨v', h'', h3, fun K' KP' => by rw [heq, h2]; exact h4 K' KP'⟩
      · exact .inr ⟨v, h', h1, fun K' KP' => by rw [heq, h2]⟩
    have skip : ∀ ts', evOps E o all (op :: l) ts h lg K KP = evOps E o all l ts' h lg K KP → (∀ K' KP', evOps (T.env E) o' all (op :: l) ts h lg K' KP' = evOps (T.env E) o' all l ts' h lg K' KP') →
        (∃ ts' h', K ts' h' lg = some r ∧ ∀ K' KP', evOps (T.env E) o' all (op :: l) ts h lg K' KP' = K' ts' h' lg) ∨ ∃ v h', KP v h' lg = some r ∧ ∀ K' KP', evOps (T.env E) o' all (op :: l) ts h lg K' KP' = KP' v h' lg := by
      intro ts' h0 heq
      rw [h0] at he
      rcases ops_ref hcon hX hO l he with ⟨ts'', h'', h3, h4⟩ | ⟨v', h'', h3, h4⟩
      · exact .inl ⟨ts'', h'', h3, fun K' KP' => by rw [heq]; exact h4 K' KP'⟩
      · exact .inr ⟨v', h'', h3, fun K' KP' => by rw [heq]; exact h4 K' KP'⟩
    cases hg : op.guard with
    | none => exact run ts (by simp only [evOps, evG, hg]) fun K' KP' => by simp only [evOps, evG, hg]
    | some p =>
      obtain ⟨j, want⟩ := p
      cases ht : (all[j]?).bind (·.dst) with
      | none => simp [evOps, evG, hg, ht] at he
      | some t =>
        cases hp : ts.getD t .un with
        | d τ x =>
          cases τ with
          | bool =>
            cases x <;> cases want
            · exact run (ts.set t (.d .bool false)) (by simp only [evOps, evG, hg, ht, hp, cond_true, cond_false]) fun K' KP' => by simp only [evOps, evG, hg, ht, hp, cond_true, cond_false]
            · exact skip (putT (ts.set t (.d .bool false)) op.dst (.tu [])) (by simp only [evOps, evG, hg, ht, hp, cond_true, cond_false]) fun K' KP' => by simp only [evOps, evG, hg, ht, hp, cond_true, cond_false]
            · exact skip (putT (ts.set t (.d .bool true)) op.dst (.tu [])) (by simp only [evOps, evG, hg, ht, hp, cond_true, cond_false]) fun K' KP' => by simp only [evOps, evG, hg, ht, hp, cond_true, cond_false]
            · exact run (ts.set t (.d .bool true)) (by simp only [evOps, evG, hg, ht, hp, cond_true, cond_false]) fun K' KP' => by simp only [evOps, evG, hg, ht, hp, cond_true, cond_false]
          | _ => simp only [evOps, evG, hg, ht, hp] at he; cases he
        | tu us =>
          cases us with
          | nil => exact skip (putT ts op.dst (.tu [])) (by simp only [evOps, evG, hg, ht, hp]) fun K' KP' => by simp only [evOps, evG, hg, ht, hp]
          | cons u us => simp only [evOps, evG, hg, ht, hp] at he; cases he
        | _ => simp only [evOps, evG, hg, ht, hp] at he; cases he

theorem loop_ref {f f' : St → (Ex → St → Option ρ) → Option ρ} (hf : ∀ σ (K : Ex → St → Option ρ), f σ K = some r → ∃ x σ', K x σ' = some r ∧ ∀ K', f' σ K' = K' x σ') {gc : St → St} :
    ∀ (m : Nat) (σ : St) (K : Ex → St → Option ρ), evLoop f gc m σ K = some r → ∃ x σ', K x σ' = some r ∧ ∀ K', evLoop f' gc m σ K' = K' x σ'
  | 0, σ, K, he => by simp [evLoop] at he
  | m + 1, σ, K, he => by
    rw [evLoop] at he
    obtain ⟨x, σ', h1, h2⟩ := hf _ _ he
    cases x with
    | normal =>
      obtain ⟨y, σ'', h3, h4⟩ := loop_ref hf m _ _ h1
      exact ⟨y, σ'', h3, fun K' => by rw [evLoop, h2]; exact h4 K'⟩
    | exit i => exact ⟨_, _, h1, fun K' => by rw [evLoop, h2]⟩
    | goto i => exact ⟨_, _, h1, fun K' => by rw [evLoop, h2]⟩
    | ret => exact ⟨_, _, h1, fun K' => by rw [evLoop, h2]⟩
    | panic v => exact ⟨_, _, h1, fun K' => by rw [evLoop, h2]⟩

theorem fillBs_len : ∀ (ps : List BP) (l : List HV), (fillBs ps l).1.length = ps.length
  | [], l => rfl
  | p :: ps, l => by rw [fillBs, List.length_cons, List.length_cons, fillBs_len ps]
theorem fillH_len (p : SP) (ts : List HT) (v : DenH ts) : (fillH p ts v).h.length = p.h.length := fillBs_len _ _

theorem pick_ok {d : Nat} {inR : Bool} {c : Code} {σ : St} {K : Ex → St → Option ρ} {x : Option ρ} : ∀ (l : List LE), pickL d k inR c σ K l = some x →
    ∃ e ∈ l, ∃ v, x = e.run ρ k v K ∧ e.need ≤ d ∧ inR = e.inR ∧ c = e.code ∧ fillH e.pat e.hs v = σ
  | [], h => by cases h
  | e :: l, h => by
    have rest : pickL d k inR c σ K l = some x → ∃ e' ∈ e :: l, ∃ v, x = e'.run ρ k v K ∧ e'.need ≤ d ∧ inR = e'.inR ∧ c = e'.code ∧ fillH e'.pat e'.hs v = σ := by
      intro h
      obtain ⟨e', h1, h2⟩ := pick_ok l h
      exact ⟨e', List.mem_cons_of_mem _ h1, h2⟩
    rw [pickL] at h
    split at h
    · rename_i m hm
      split at h
      · rename_i v hv
        cases hb : (Nat.ble e.need d && (bEq inR e.inR && codeEq c e.code)) with
        | false => rw [hb] at h; exact rest h
        | true =>
          rw [hb] at h
          simp only [Bool.and_eq_true] at hb
          simp only [cond_true, Option.some.injEq] at h
          exact ⟨e, List.mem_cons_self .., v, h.symm, Nat.le_of_ble_eq_true hb.1, bEq_ok _ _ hb.2.1, codeEq_ok _ _ hb.2.2, fillH_ok _ _ _ _ _ hm hv⟩
      · exact rest h
    · exact rest h

theorem code_ref (hcon : ∀ f, E.con f = none) (hT : TbOk T E k) {d : Nat} (ho : o = orcL T E k d) (hX : OrcX o') (hO : OrcRef (T.env E) o o') {inR : Bool} {fno : Nat} : ∀ (b : Code) (σ : St) (K : Ex → St → Option ρ),
    evCodeL T d E o inR fno k b σ K = some r → ∃ x σ', K x σ' = some r ∧ ∀ K', evCode (T.env E) o' inR fno k b σ K' = K' x σ'
  | .skip, σ, K, he => ⟨_, _, by rw [evCodeL] at he; exact he, fun K' => by rw [evCode]⟩
  | .label _, σ, K, he => ⟨_, _, by rw [evCodeL] at he; exact he, fun K' => by rw [evCode]⟩
  | .exit _, σ, K, he => ⟨_, _, by rw [evCodeL] at he; exact he, fun K' => by rw [evCode]⟩
  | .goto _, σ, K, he => ⟨_, _, by rw [evCodeL] at he; exact he, fun K' => by rw [evCode]⟩
  | .ret, σ, K, he => ⟨_, _, by rw [evCodeL] at he; exact he, fun K' => by rw [evCode]⟩
  | .region id ops true, σ, K, he => by
    rw [evCodeL] at he
    split at he
    · rename_i q hq
      exact ⟨_, _, he, fun K' => by rw [evCode, show (T.env E).re fno id ops σ.ts σ.h = some q from hq]⟩
    · rename_i hq
      obtain ⟨hb, he⟩ := bif_some he
      rw [evOpsL_eq] at he
      rcases ops_ref hcon hX hO _ he with ⟨ts', h', h1, h2⟩ | ⟨_, _, h1, _⟩
      · exact ⟨_, _, h1, fun K' => by rw [evCode, show (T.env E).re fno id ops σ.ts σ.h = none from hq, show (T.env E).dr fno id = true from hb]; simp only [cond_true]; rw [h2]⟩
      · cases h1
  | .region id ops false, σ, K, he => by
    rw [evCodeL, evOpsL_eq] at he
    rcases ops_ref hcon hX hO _ he with ⟨ts', h', h1, h2⟩ | ⟨_, _, h1, h2⟩
    · exact ⟨_, _, h1, fun K' => by rw [evCode, h2]⟩
    · exact ⟨_, _, h1, fun K' => by rw [evCode, h2]⟩
  | .seq x y, σ, K, he => by
    rw [evCodeL] at he
    obtain ⟨e, σ', h1, h2⟩ := code_ref hcon hT ho hX hO x _ _ he
    cases e with
    | normal =>
      obtain ⟨e', σ'', h3, h4⟩ := code_ref hcon hT ho hX hO y _ _ h1
      exact ⟨_, _, h3, fun K' => by rw [evCode, h2]; exact h4 K'⟩
    | exit i => exact ⟨_, _, h1, fun K' => by rw [evCode, h2]⟩
    | goto i => exact ⟨_, _, h1, fun K' => by rw [evCode, h2]⟩
    | ret => exact ⟨_, _, h1, fun K' => by rw [evCode, h2]⟩
    | panic v => exact ⟨_, _, h1, fun K' => by rw [evCode, h2]⟩
  | .cond c x y, σ, K, he => by
    rw [evCodeL] at he
    split at he
    · rename_i t ht
      have ht' : opd (T.env E) σ.ts c = .d .bool t := ht
      cases t with
      | true =>
        obtain ⟨e', σ'', h3, h4⟩ := code_ref hcon hT ho hX hO x _ _ he
        exact ⟨_, _, h3, fun K' => by rw [evCode, ht']; exact h4 K'⟩
      | false =>
        obtain ⟨e', σ'', h3, h4⟩ := code_ref hcon hT ho hX hO y _ _ he
        exact ⟨_, _, h3, fun K' => by rw [evCode, ht']; exact h4 K'⟩
    · cases he
  | .block id x, σ, K, he => by
    rw [evCodeL] at he
    obtain ⟨e, σ', h1, h2⟩ := code_ref hcon hT ho hX hO x _ _ he
    cases e with
    | normal => exact ⟨_, _, h1, fun K' => by rw [evCode, h2]⟩
    | exit i =>
      simp only at h1
      split at h1
      · rename_i hi; exact ⟨_, _, h1, fun K' => by rw [evCode, h2]; simp only; rw [if_pos hi]⟩
      · rename_i hi; exact ⟨_, _, h1, fun K' => by rw [evCode, h2]; simp only; rw [if_neg hi]⟩
    | goto i => exact ⟨_, _, h1, fun K' => by rw [evCode, h2]⟩
    | ret => exact ⟨_, _, h1, fun K' => by rw [evCode, h2]⟩
    | panic v => exact ⟨_, _, h1, fun K' => by rw [evCode, h2]⟩
  | .loop c, σ, K, he => by
    have main : evLoop (fun σ K => evCodeL T d E o inR fno k c σ K) (gcT (E.kp fno (keyOf c)) σ.h.length) k (clr (E.kp fno (keyOf c)) σ) (fun x σ' => K x (gcX (E.kp fno (keyOf c)) σ.h.length x σ')) = some r →
        ∃ x σ', K x σ' = some r ∧ ∀ K', evCode (T.env E) o' inR fno k (.loop c) σ K' = K' x σ' := by
      intro he
      obtain ⟨e, σ', h1, h2⟩ := loop_ref (fun σ K h => code_ref hcon hT ho hX hO c σ K h) k _ _ he
      exact ⟨e, _, h1, fun K' => by rw [evCode]; exact h2 _⟩
    rw [evCodeL] at he
    split at he
    · rename_i x hp
      obtain ⟨e, hm, v, hx, hn, hi, hc, hσ⟩ := pick_ok _ hp
      subst hx
      have hv := hT fno _ e hm ρ d hn v K
      have hlen : e.pat.h.length = σ.h.length := by
        rw [← fillH_len e.pat e.hs v, hσ]
        rfl
      rw [hv, hlen, hσ, ← hi, ← hc, ← ho] at he
      exact main he
    · exact main he
  | .rangeFunc g ps x y, σ, K, he => by
    rw [evCodeL] at he
    cases inR with
    | true => simp at he
    | false =>
      simp only [cond_false] at he
      split at he
      · rename_i f caps hf
        have hf' : opd (T.env E) σ.ts g = .fn f caps := hf
        obtain ⟨out, h2, lg, h1, h3⟩ := hO.iter _ _ _ _ _ _ he
        have h3' : ∀ K' : KO ρ, o'.call f (.yl (σ.h.length + 1) :: caps) (σ.h ++ [.defs, .loop { state := .ready, pending := none, fno := fno, tmps := clrT ((T.env E).kp fno (keyOf x)) σ.ts, params := ps.toList, assign := x, body := y }]) K' = K' out h2 lg := h3
        split at h1
        · rename_i la hla
          cases out with
          | pan v => exact ⟨_, _, h1, fun K' => by rw [evCode]; simp only [cond_false, hf']; rw [h3']; simp only [hla]⟩
          | ret v =>
            simp only at h1
            split at h1
            · cases h1
            · rename_i hnb
              split at h1
              · rename_i hp; exact ⟨_, _, h1, fun K' => by rw [evCode]; simp only [cond_false, hf']; rw [h3']; simp only [hla]; cases hst : la.state <;> simp_all⟩
              · rename_i hp; exact ⟨_, _, h1, fun K' => by rw [evCode]; simp only [cond_false, hf']; rw [h3']; simp only [hla]; cases hst : la.state <;> simp_all⟩
              · rename_i hp; exact ⟨_, _, h1, fun K' => by rw [evCode]; simp only [cond_false, hf']; rw [h3']; simp only [hla]; cases hst : la.state <;> simp_all⟩
              · cases h1
        · cases h1
      · cases he
  | .scope x, σ, K, he => by
    rw [evCodeL] at he
    obtain ⟨e, σ', h1, h2⟩ := code_ref hcon hT ho hX hO x _ _ he
    cases e with
    | normal => exact ⟨_, _, h1, fun K' => by rw [evCode, h2]⟩
    | exit i => exact ⟨_, _, h1, fun K' => by rw [evCode, h2]⟩
    | goto i => cases h1
    | ret => exact ⟨_, _, h1, fun K' => by rw [evCode, h2]⟩
    | panic v => exact ⟨_, _, h1, fun K' => by rw [evCode, h2]⟩

end
end Go.Fy

set_option linter.unusedVariables false
set_option linter.unusedSimpArgs false
namespace Go.Fy
open Go.RowKit

section
variable {ρ : Type} {r : ρ} {T : Tb} {E : Env} {o o' : Orc ρ} {k : Nat}

theorem resV_env (ts : List PV) (h : List Blk) : ∀ l : List ResultVar, resVs (T.env E) ts h l = resVs E ts h l
  | [] => rfl
  | x :: l => by
    rw [resVs, resVs, resV_env ts h l]
    rfl

theorem fn_ref (hcon : ∀ f, E.con f = none) (hT : TbOk T E k) {d : Nat} (ho : o = orcL T E k d) (hX : OrcX o') (hO : OrcRef (T.env E) o o') {f : Nat} {as : List PV} {h : List Blk} {K : KO ρ} (he : evFnL T d E o k f as h K = some r) :
    ∃ out h' lg, K out h' lg = some r ∧ ∀ K' : KO ρ, evFn (T.env E) o' k f as h K' = K' out h' lg := by
  unfold evFnL at he
  unfold evFn
  split at he
  · cases he
  · rename_i fn hfn
    have hfn' : (T.env E).fn f = some fn := hfn
    simp only [hfn']
    split at he
    · cases he
    · rename_i b hb
      simp only [hb]
      obtain ⟨x, σ', h1, h2⟩ := code_ref hcon hT ho hX hO _ _ _ he
      split at h1
      · cases h1
      · rename_i h' hs
        cases x with
        | normal =>
          simp only at h1
          split at h1
          · rename_i vs hv; exact ⟨_, _, _, h1, fun K' => by rw [h2]; simp only [hs, resV_env, hv]⟩
          · cases h1
        | ret =>
          simp only at h1
          split at h1
          · rename_i vs hv; exact ⟨_, _, _, h1, fun K' => by rw [h2]; simp only [hs, resV_env, hv]⟩
          · cases h1
        | panic v => exact ⟨_, _, _, h1, fun K' => by rw [h2]; simp only [hs]⟩
        | exit i => cases h1
        | goto i => cases h1

theorem round_ref (hcon : ∀ f, E.con f = none) (hT : TbOk T E k) {d : Nat} (ho : o = orcL T E k d) (hX : OrcX o') (hO : OrcRef (T.env E) o o') {l : Nat} {as : List PV} {h : List Blk} {K : KO ρ} (he : evRoundL T d E o k l as h K = some r) :
    ∃ out h' lg, K out h' lg = some r ∧ ∀ K' : KO ρ, evRound (T.env E) o' k l as h K' = K' out h' lg := by
  unfold evRoundL at he
  unfold evRound
  split at he
  · rename_i la hla
    simp only [hla]
    split at he
    · rename_i hc
      have hc' : as.length = la.params.length ∧ drOk (T.env E).ok ((T.env E).dr la.fno) la.assign = true ∧ drOk (T.env E).ok ((T.env E).dr la.fno) la.body = true := hc
      simp only [hc', and_self, if_true]
      obtain ⟨x, σ', h1, h2⟩ := code_ref hcon hT ho hX hO _ _ _ he
      cases x with
      | normal =>
        simp only at h1
        split at h1
        · rename_i r1 hr1
          split at h1
          · rename_i hst
            obtain ⟨x2, σ2, h3, h4⟩ := code_ref hcon hT ho hX hO _ _ _ h1
            split at h3
            · rename_i r2 hr2
              cases x2 with
              | normal => exact ⟨_, _, _, h3, fun K' => by rw [h2]; simp only [hr1, hst]; rw [h4]; simp only [hr2]⟩
              | ret => exact ⟨_, _, _, h3, fun K' => by rw [h2]; simp only [hr1, hst]; rw [h4]; simp only [hr2]⟩
              | exit i => exact ⟨_, _, _, h3, fun K' => by rw [h2]; simp only [hr1, hst]; rw [h4]; simp only [hr2]⟩
              | goto i => cases h3
              | panic v => cases h3
            · cases h3
          · cases h1
        · cases h1
      | exit i => cases h1
      | goto i => cases h1
      | ret => cases h1
      | panic v => cases h1
    · cases he
  · cases he

theorem toDsK_yl (h : List Blk) (l : Nat) (caps : List PV) : ∀ (ts : List Ty) (K : DenL ts → Option ρ), toDsK h ts (.yl l :: caps) K = none
  | [], K => rfl
  | t :: ts, K => rfl

theorem orcL_ref (hcon : ∀ f, E.con f = none) (hT : TbOk T E k) : ∀ d, OrcRef (T.env E) (orcL (ρ := ρ) T E k d) (orcN (T.env E) k d)
  | 0 => ⟨fun f as h K r he => by simp [orcL] at he, fun f l caps h K r he => by simp [orcL] at he, fun f as h K r he => by simp [orcL] at he⟩
  | d + 1 => {
    call := fun f as h K r he => by
      simp only [orcL] at he
      split at he
      · rename_i c hc
        rw [callCP_eq] at he
        obtain ⟨out, h', lg, h1, h2⟩ := callCon_x he
        exact ⟨out, h', lg, h1, fun K' => by rw [show (T.env E).con f = some c.con by simp [Tb.env, hc]]; exact h2 K'⟩
      · rename_i hc
        obtain ⟨out, h', lg, h1, h2⟩ := fn_ref hcon hT rfl (orcN_x _ k d) (orcL_ref hcon hT d) he
        exact ⟨out, h', lg, h1, fun K' => by rw [show (T.env E).con f = none by simp [Tb.env, hc]]; exact h2 K'⟩
    iter := fun f l caps h K r he => by
      simp only [orcL] at he
      split at he
      · rename_i c hc
        unfold callCP at he
        rw [toDsK_yl] at he
        cases he
      · exact fn_ref hcon hT rfl (orcN_x _ k d) (orcL_ref hcon hT d) he
    round := fun l as h K r he => round_ref hcon hT rfl (orcN_x _ k d) (orcL_ref hcon hT d) he }

end

/-! ### A function of data -/
def unTu : List Ty → PV → Option (List PV)
  | [_], v => some [v]
  | _, .tu vs => some vs
  | _, _ => none
/-- Data out of units, slices' rows among them. -/
def packH {ρ : Type} (h : List Blk) : (t : Ty) → List PV → (t.den → List PV → Option ρ) → Option ρ
  | .nil, us, K => K () us
  | .cons a b, us, K => packH h a us fun x r => packH h b r fun y r' => K (x, y) r'
  | .bool, us, K => (match us with | u :: r => toDK h .bool u fun x => K x r | [] => none)
  | .int k, us, K => (match us with | u :: r => toDK h (.int k) u fun x => K x r | [] => none)
  | .str, us, K => (match us with | u :: r => toDK h .str u fun x => K x r | [] => none)
  | .sl t, us, K => (match us with | u :: r => toDK h (.sl t) u fun x => K x r | [] => none)
  | .arr n t, us, K => (match us with | u :: r => toDK h (.arr n t) u fun x => K x r | [] => none)
def toDX {ρ : Type} (h : List Blk) (t : Ty) (p : PV) (K : t.den → Option ρ) : Option ρ := match p with
  | .ag us => bif t.agg then packH h t us (fun x r => match r with | [] => K x | _ => none) else none
  | p => toDK h t p K
def toDXs {ρ : Type} (h : List Blk) : (ts : List Ty) → List PV → (DenL ts → Option ρ) → Option ρ
  | [], [], K => K ()
  | t :: ts, p :: ps, K => toDX h t p fun x => toDXs h ts ps fun xs => K (x, xs)
  | _, _, _ => none
/-- The end: data out of what is handed back. -/
def KD (res : List Ty) : KO (DenL res) := fun out h _ => match out with
  | .ret v => match unTu res v with
    | some vs => toDXs h res vs some
    | none => none
  | .pan _ => none

section
variable {w0 : World} {c : Cx} {ρ : Type} {r : ρ}
def Cx.all (c : Cx) (b : Nat) : Prop := c.ok b ∨ (c.lo ≤ b ∧ b < c.w.heap.size)
theorem toDK_sound (hr : Rel w0 c) {t : Ty} {p : PV} {K : t.den → Option ρ} (h : toDK c.H t p K = some r) {v : Value} (hv : VR c p v) : ∃ x, K x = some r ∧ DV c.w c.all t x v := by
  rw [toDK_eq] at h
  split at h
  · rename_i x hx
    exact ⟨x, h, toD_sound hr hx hv _ (fun b hb => .inl hb) (fun i hl _ => .inr (hr.rng i hl))⟩
  · cases h
theorem unit_sound (hr : Rel w0 c) {t : Ty} (ht : t.agg = false ∨ ∃ n e, t = .arr n e) {us : List PV} {K : t.den → List PV → Option ρ}
    (h : (match us with | u :: s => toDK c.H t u fun x => K x s | [] => none) = some r) {cs : List Value} (hu : URs c us cs) :
    ∃ x s a b, K x s = some r ∧ cs = a ++ b ∧ DC c.w c.all t x a ∧ URs c s b := by
  cases us with
  | nil => cases h
  | cons u s =>
    simp only at h
    obtain ⟨a, b, e, h1, h2⟩ := URs_cons.1 hu
    cases u with
    | d t' x' =>
      rw [toDK_eq] at h
      simp only [toD] at h
      split at h
      · rename_i x hx
        obtain ⟨e1, hx⟩ := cast?_some hx
        subst e1 hx
        exact ⟨_, s, a, b, h, e, DC.keeps ⟨fun b hb => .inl hb, fun _ _ => rfl⟩ _ _ _ h1, h2⟩
      · cases h
    | _ =>
      obtain ⟨v, e1, ho, hv⟩ := h1
      obtain ⟨x, hk, cs', hd, hm⟩ := toDK_sound hr h hv
      rcases ht with ht | ⟨n, e', rfl⟩
      · obtain ⟨v', e2, ho'⟩ := DC.leaf ht hd
        subst e2
        rw [ht] at hm
        have hm : v = v' := hm
        subst hm
        exact ⟨x, s, a, b, hk, e, by rw [e1]; exact hd, h2⟩
      · have hm : v = .agg cs'.toArray := hm
        subst hm
        simp [One, Value.oneCell'] at ho
theorem packH_sound (hr : Rel w0 c) : ∀ (t : Ty) (us : List PV) (K : t.den → List PV → Option ρ) (cs : List Value), packH c.H t us K = some r → URs c us cs →
    ∃ x s a b, K x s = some r ∧ cs = a ++ b ∧ DC c.w c.all t x a ∧ URs c s b
  | .nil, us, K, cs, h, hu => ⟨(), us, [], cs, h, rfl, rfl, hu⟩
  | .cons a b, us, K, cs, h, hu => by
    obtain ⟨x, s, c1, c2, h1, e1, d1, u1⟩ := packH_sound hr a us _ cs h hu
    obtain ⟨y, s', c3, c4, h2, e2, d2, u2⟩ := packH_sound hr b s _ c2 h1 u1
    exact ⟨(x, y), s', c1 ++ c3, c4, h2, by rw [e1, e2, List.append_assoc], ⟨c1, c3, rfl, d1, d2⟩, u2⟩
  | .bool, us, K, cs, h, hu => unit_sound hr (.inl rfl) h hu
  | .int k, us, K, cs, h, hu => unit_sound hr (.inl rfl) h hu
  | .str, us, K, cs, h, hu => unit_sound hr (.inl rfl) h hu
  | .sl t, us, K, cs, h, hu => unit_sound hr (.inl rfl) h hu
  | .arr n t, us, K, cs, h, hu => unit_sound hr (.inr ⟨n, t, rfl⟩) h hu
theorem toDX_sound (hr : Rel w0 c) {t : Ty} {p : PV} {K : t.den → Option ρ} (h : toDX c.H t p K = some r) {v : Value} (hv : VR c p v) : ∃ x, K x = some r ∧ DV c.w c.all t x v := by
  unfold toDX at h
  split at h
  · rename_i us
    obtain ⟨hb, h⟩ := bif_some h
    rw [VR] at hv
    obtain ⟨cs, rfl, hu⟩ := hv
    obtain ⟨x, s, a, b, h1, e, hd, hs⟩ := packH_sound hr t us _ cs h hu
    cases s with
    | cons _ _ => cases h1
    | nil =>
      rw [URs] at hs
      subst hs
      rw [List.append_nil] at e
      subst e
      exact ⟨x, h1, _, hd, by rw [hb]; rfl⟩
  · exact toDK_sound hr h hv
theorem toDXs_sound (hr : Rel w0 c) : ∀ (ts : List Ty) (ps : List PV) (K : DenL ts → Option ρ) (vs : List Value), toDXs c.H ts ps K = some r → VRs c ps vs → ∃ x, K x = some r ∧ OutR.DVs c.w c.all ts x vs
  | [], [], K, vs, h, hv => by rw [VRs] at hv; exact ⟨(), h, hv⟩
  | [], _ :: _, K, vs, h, hv => by cases h
  | _ :: _, [], K, vs, h, hv => by cases h
  | t :: ts, p :: ps, K, vs, h, hv => by
    rw [toDXs] at h
    rw [VRs] at hv
    obtain ⟨v, s, rfl, h1, h2⟩ := hv
    obtain ⟨x, h3, h4⟩ := toDX_sound hr h h1
    obtain ⟨xs, h5, h6⟩ := toDXs_sound hr ts ps _ s h3 h2
    exact ⟨(x, xs), h5, v, s, rfl, h4, h6⟩
end

theorem KD_sound {w0 : World} {c : Cx} (hr : Rel w0 c) {ts : List Ty} {out : OutV} {lg : List Nat} {x : DenL ts} {e : Ending} (h : KD ts out c.H lg = some x) (ho : OutVR c out e) :
    OutR c.w (fun b => c.ok b ∨ (c.lo ≤ b ∧ b < c.w.heap.size)) (.ret x : Out ts) e := by
  cases out with
  | pan v => cases h
  | ret v =>
    obtain ⟨u, rfl, hv⟩ := ho
    unfold KD at h
    simp only at h
    have key : ∀ (ts' : List Ty) (ps : List PV) (us : List Value) (y : DenL ts'), toDXs c.H ts' ps some = some y → VRs c ps us → OutR.DVs c.w (fun b => c.ok b ∨ (c.lo ≤ b ∧ b < c.w.heap.size)) ts' y us := by
      intro ts' ps us y hy hus
      obtain ⟨z, hz, h6⟩ := toDXs_sound hr ts' ps some us hy hus
      injection hz with hz
      subst hz
      exact h6
    split at h
    · rename_i vs hvs
      refine ⟨u, rfl, ?_⟩
      match ts, x, hvs, h with
      | [t], x, hvs, h =>
        simp only [unTu, Option.some.injEq] at hvs
        subst hvs
        have := key [t] [v] [u] x h (by rw [VRs]; exact ⟨u, [], rfl, hv, by rw [VRs]⟩)
        obtain ⟨v', r', e1, h1, _⟩ := this
        injection e1 with e1
        subst e1
        exact h1
      | [], x, hvs, h =>
        cases v <;> simp only [unTu, Option.some.injEq, reduceCtorEq] at hvs
        subst hvs
        rw [VR] at hv
        obtain ⟨l, rfl, hl⟩ := hv
        exact ⟨l, rfl, key [] _ l x h hl⟩
      | t :: t' :: ts, x, hvs, h =>
        cases v <;> simp only [unTu, Option.some.injEq, reduceCtorEq] at hvs
        subst hvs
        rw [VR] at hv
        obtain ⟨l, rfl, hl⟩ := hv
        exact ⟨l, rfl, key _ _ l x h hl⟩
    · cases h

section
variable {P : Program} {T : Tb} {E : Env} {k : Nat}

/-- The whole, seen from outside, whatever is asked of the end. -/
theorem call_soundK {ρ : Type} {r : ρ} (hE : EnvOk P E) (hC : CodeOk E) (hok : (∀ ops, E.ok ops = true → regOk E ops = true) ∧ ReOk P E) {w : World} {ok : Nat → Prop} (hlt : ∀ b, ok b → b < w.heap.size) (hg : GOk E w ok) {ts : List Ty} {xs : DenL ts} {vs : List Value}
    (ha : OutR.DVs w ok ts xs vs) {k d f : Nat} {K : KO ρ} (he : (orcN E k d).call f (ofRes ts xs) [] K = some r) :
    (∃ fn, P.funcs[f]? = some fn ∧ fn.name ≠ "runtime.NumGoroutine" ∧ fn.body.isSome = true) ∧
      Calls P f vs.toArray w fun e w' => ∃ (c : Cx) (o : OutV) (lg : List Nat), c.w = w' ∧ K o c.H lg = some r ∧ Rel w c ∧ c.ok0 = ok ∧ OutVR c o e := by
  let c : Cx := { w, bs := [], caps := [], H := [], lo := w.heap.size, ok0 := ok }
  have hr : Rel w c := ⟨rfl, hlt, rfl, rfl, Below.refl _ _, fun i j hi => absurd (live_lt hi) (by simp [c]), fun i hi => absurd (live_lt hi) (by simp [c]), fun i x hx => by simp [c] at hx⟩
  have hv : VRs c (ofRes ts xs) vs := ofRes_VRs ts xs vs (DVs.keeps ⟨fun b hb => .inl hb, fun _ _ => rfl⟩ ts xs vs ha)
  have hO := orc_sound (ρ := ρ) (w0 := w) (ok0 := ok) hE hg hC hok k d
  refine hO.call c f _ vs _ r _ hr rfl he hv ?_
  intro c' out e lg hm hov hk
  exact ⟨c', out, lg, rfl, hk, hm.rel, hm.ok0, hov⟩

/-- A function of data, by the evaluator with tables. -/
theorem con_of_L (hE : EnvOk P (T.env E)) (hcon : ∀ f, E.con f = none) (hT : TbOk T E k) (hC : CodeOk E) (hok : (∀ ops, E.ok ops = true → regOk (T.env E) ops = true) ∧ ReOk P (T.env E)) {f : Nat} (hf : T.cp f = none) (d : Nat) {args res : List Ty} (fn : DenL args → Option (DenL res))
    (he : ∀ xs y, fn xs = some y → (orcL T E k d).call f (ofRes args xs) [] (KD res) = some y) : ConOk P E f { args, res, fn := fun xs => (fn xs).map .ret } := by
  intro w ok xs vs o hlt hg hvs hfn
  simp only [Option.map_eq_some_iff] at hfn
  obtain ⟨y, hy, rfl⟩ := hfn
  have h1 := he xs y hy
  obtain ⟨out, h', lg, h2, h3⟩ := (orcL_ref hcon hT d).call f _ _ _ _ h1
  rw [show (T.env E).con f = none by simp [Tb.env, hf]] at h3
  simp only at h3
  have h4 : (orcN (T.env E) k d).call f (ofRes args xs) [] (KD res) = some y := by rw [h3]; exact h2
  obtain ⟨hfn, hcalls⟩ := call_soundK hE hC hok hlt hg hvs h4
  refine .inl ⟨hfn, hcalls.mono fun e w' => ?_⟩
  rintro ⟨c, out, lg, rfl, hk, hr, hok0, hov⟩
  have := KD_sound hr hk hov
  refine ⟨?_, by rw [← hr.lo]; exact hr.below⟩
  obtain ⟨v, e1, h5⟩ := this
  have kp : Keeps c.w (fun b => c.ok b ∨ (c.lo ≤ b ∧ b < c.w.heap.size)) c.w (fun b => ok b ∨ (w.heap.size ≤ b ∧ b < c.w.heap.size)) := ⟨fun b hb => by
    rcases hb with (hb | hb) | hb
    · left; rw [← hok0]; exact hb
    · right; rw [← hr.lo]; exact ⟨hb.1, hb.2.1⟩
    · right; rw [← hr.lo]; exact hb, fun _ _ => rfl⟩
  refine ⟨v, e1, ?_⟩
  revert h5
  match res, y with
  | [t], y => intro h5; exact h5.keeps kp
  | [], y => rintro ⟨l, e2, h5⟩; exact ⟨l, e2, DVs.keeps kp _ _ _ h5⟩
  | t :: t' :: ts, y => rintro ⟨l, e2, h5⟩; exact ⟨l, e2, DVs.keeps kp _ _ _ h5⟩

/-- A contract speaks of the package's variables alone. -/
theorem ConOk.env {E E' : Env} (h : E'.glob = E.glob) {f : Nat} {c : Con} (hc : ConOk P E f c) : ConOk P E' f c := by
  intro w ok xs vs o hlt hg
  exact hc w ok xs vs o hlt (fun g t x hx => hg g t x (by rw [h]; exact hx))
/-- A contract that says less. -/
theorem ConOk.less {E : Env} {f : Nat} {args res : List Ty} {fn fn' : DenL args → Option (Out res)} (hc : ConOk P E f { args, res, fn }) (h : ∀ xs o, fn' xs = some o → fn xs = some o) : ConOk P E f { args, res, fn := fn' } := by
  intro w ok xs vs o hlt hg hv hf
  exact hc w ok xs vs o hlt hg hv (h _ _ hf)
end
end Go.Fy

set_option linter.unusedVariables false
set_option linter.unusedSimpArgs false
namespace Go.Fy
open Go.RowKit
universe u

def lookN {α : Type u} : List (Nat × α) → Nat → Option α
  | [], _ => none
  | p :: r, n => bif Nat.beq p.1 n then some p.2 else lookN r n
theorem lookN_mem {α : Type u} : ∀ {l : List (Nat × α)} {n : Nat} {x : α}, lookN l n = some x → (n, x) ∈ l
  | [], _, _, h => by cases h
  | p :: r, n, x, h => by
    rw [lookN] at h
    cases hb : Nat.beq p.1 n with
    | true =>
      rw [hb] at h
      injection h with h
      have := Nat.eq_of_beq_eq_true hb
      subst this h
      exact List.mem_cons_self ..
    | false => rw [hb] at h; exact List.mem_cons_of_mem _ (lookN_mem h)
def look2 {α : Type u} : List (Nat × Nat × α) → Nat → Nat → List α
  | [], _, _ => []
  | p :: r, n, m => bif Nat.beq p.1 n && Nat.beq p.2.1 m then p.2.2 :: look2 r n m else look2 r n m
theorem look2_mem {α : Type u} : ∀ {l : List (Nat × Nat × α)} {n m : Nat} {x : α}, x ∈ look2 l n m → (n, m, x) ∈ l
  | [], _, _, _, h => by cases h
  | p :: r, n, m, x, h => by
    rw [look2] at h
    cases hb : Nat.beq p.1 n && Nat.beq p.2.1 m with
    | true =>
      rw [hb, cond_true] at h
      simp only [Bool.and_eq_true] at hb
      have h1 := Nat.eq_of_beq_eq_true hb.1
      have h2 := Nat.eq_of_beq_eq_true hb.2
      rcases List.mem_cons.1 h with he | he
      · subst h1 h2
        rw [he]
        exact List.mem_cons_self ..
      · exact List.mem_cons_of_mem _ (look2_mem he)
    | false => rw [hb] at h; exact List.mem_cons_of_mem _ (look2_mem h)

/-- A part of a code. -/
def subC : List Nat → Code → Code
  | [], c => c
  | i :: p, .seq a b => match i with | 0 => subC p a | _ => subC p b
  | i :: p, .cond _ a b => match i with | 0 => subC p a | _ => subC p b
  | _ :: p, .block _ a => subC p a
  | _ :: p, .loop a => subC p a
  | i :: p, .rangeFunc _ _ a b => match i with | 0 => subC p a | _ => subC p b
  | _ :: p, .scope a => subC p a
  | _, _ => .skip
def bd (f : Func) : Code := f.body.getD .skip

def conE (cps : List (Nat × CP)) : Env := { tt := fun _ => none, glob := fun _ => none, fn := fun _ => none, con := fun f => (lookN cps f).map CP.con, dr := fun _ _ => false, ok := fun _ => false, kp := fun _ _ => none }
def mkE (tys : Nat → Option TI) (gl : Nat → Option ((t : Ty) × t.den)) (fns : Nat → Option Func) (drl : List (Nat × List Nat)) (kpl : List (Nat × List (Nat × List Nat))) (cps : List (Nat × CP)) (re : Nat → Nat → Array Oper → List PV → List Blk → Option (List PV × List Blk × List Nat) := fun _ _ _ _ _ => none) : Env :=
  { re := re, tt := tys, glob := gl, fn := fns, con := fun _ => none, dr := fun f i => (match lookN drl f with | some l => l.any (Nat.beq i) | none => false), ok := fun ops => regOk (conE cps) ops,
    kp := fun f key => (match lookN kpl f with | some l => lookN l key | none => none) }
def mkT (lps : List (Nat × Nat × LE)) (cps : List (Nat × CP)) : Tb := { lp := look2 lps, cp := lookN cps }

def LE.F (e : LE) (T : Tb) (E : Env) (f k d : Nat) {ρ : Type} : St → (Ex → St → Option ρ) → Option ρ := fun σ K => evCodeL T d E (orcL T E k d) e.inR f k e.code σ K
def LE.gc (e : LE) (E : Env) (f : Nat) : St → St := gcT (E.kp f (keyOf e.code)) e.pat.h.length
def LE.KX (e : LE) (E : Env) (f : Nat) {ρ : Type} (K : Ex → St → Option ρ) : Ex → St → Option ρ := fun x σ' => K x (gcX (E.kp f (keyOf e.code)) e.pat.h.length x σ')
def LE.Ok (e : LE) (T : Tb) (E : Env) (k f : Nat) : Prop := ∀ (ρ : Type) (d : Nat) (v : DenH e.hs) (K : Ex → St → Option ρ), e.run ρ k v K = evLoop (e.F T E f k (d + e.need)) (e.gc E f) k (fillH e.pat e.hs v) (e.KX E f K)

theorem tbOk_of {E : Env} {k : Nat} {lps : List (Nat × Nat × LE)} {cps : List (Nat × CP)} (h : ∀ p ∈ lps, p.2.2.Ok (mkT lps cps) E k p.1) : TbOk (mkT lps cps) E k := by
  intro fno key e he ρ d hd v K
  obtain ⟨d', rfl⟩ : ∃ d', d = d' + e.need := ⟨d - e.need, by omega⟩
  exact h _ (look2_mem he) ρ d' v K

theorem regOk_con {E E' : Env} (h : E.con = E'.con) : regOk E = regOk E' := by
  have h1 : isQ E = isQ E' := by
    funext o
    unfold isQ
    rw [h]
  have h2 : commOk E = commOk E' := by
    funext all p i
    unfold commOk
    rw [h1]
  funext ops
  unfold regOk
  rw [h2]

theorem TOk.env {P : Program} {E E' : Env} (h : E'.tt = E.tt) {t : Nat} {ti : TI} (x : TOk P E t ti) : TOk P E' t ti :=
  { und := x.und, inf := x.inf, sz := x.sz, zsh := x.zsh, aggk := x.aggk, other := x.other, one := x.one, ty := x.ty, fsz := x.fsz, flen := x.flen, eqg := x.eqg,
    arr := fun n e hk => by rw [h]; exact x.arr n e hk }

/-- What '==' of types' values asks. -/
def SeqOk (P : Program) (tys : Nat → Option TI) : Prop :=
  ∀ (ty : Nat) (ti : TI) (τ : Ty), tys ty = some ti → ti.ty = some τ → noSl τ = true → ti.cmp = true → ∀ (w : World) (ok : Nat → Prop) (x y : τ.den) (vx vy : Value), DV w ok τ x vx → DV w ok τ y vy → (Op.equal ty vx vy).run P w = .ok (deq τ x y) w
/-- What a seat's tables have. -/
structure SeatOk (P : Program) (tys : Nat → Option TI) (fns : Nat → Option Func) : Prop where
  tt : ∀ t ti, tys t = some ti → TOk P (mkE tys (fun _ => none) fns [] [] []) t ti
  fn : ∀ f fn, fns f = some fn → P.funcs[f]? = some fn ∧ fn.name ≠ "runtime.NumGoroutine"
  seq : SeqOk P tys

/-- A function's contract by a table of its own kind. -/
def CpOk (P : Program) (gl : Nat → Option ((t : Ty) × t.den)) (f : Nat) (c : CP) : Prop := ConOk P (mkE (fun _ => none) gl (fun _ => none) [] [] []) f c.con

section
variable {P : Program} {tys : Nat → Option TI} {gl : Nat → Option ((t : Ty) × t.den)} {fns : Nat → Option Func} {drl : List (Nat × List Nat)} {kpl : List (Nat × List (Nat × List Nat))} {cps : List (Nat × CP)} {lps : List (Nat × Nat × LE)} {k : Nat} {re : Nat → Nat → Array Oper → List PV → List Blk → Option (List PV × List Blk × List Nat)}

theorem envOk_of (hS : SeatOk P tys fns) (hC : ∀ p ∈ cps, CpOk P gl p.1 p.2) : EnvOk P ((mkT lps cps).env (mkE tys gl fns drl kpl cps re)) := by
  refine ⟨fun t ti h => TOk.env (E := mkE tys (fun _ => none) fns [] [] []) (E' := (mkT lps cps).env (mkE tys gl fns drl kpl cps re)) rfl (hS.tt t ti h), fun f fn h => hS.fn f fn h, fun f c h => ?_, hS.seq⟩
  simp only [Tb.env, mkT, Option.map_eq_some_iff] at h
  obtain ⟨c', h1, rfl⟩ := h
  exact ConOk.env (E' := (mkT lps cps).env (mkE tys gl fns drl kpl cps re)) rfl (hC _ (lookN_mem h1))

theorem drOk_none (ok : Array Oper → Bool) {dr : Nat → Bool} (h : ∀ i, dr i = false) : ∀ b : Code, drOk ok dr b = true
  | .region id ops d => by simp [drOk, h id]
  | .seq x y => by simp [drOk, drOk_none ok h x, drOk_none ok h y]
  | .cond _ x y => by simp [drOk, drOk_none ok h x, drOk_none ok h y]
  | .block _ x => by simp [drOk, drOk_none ok h x]
  | .loop x => by simp [drOk, drOk_none ok h x]
  | .rangeFunc _ _ x y => by simp [drOk, drOk_none ok h x, drOk_none ok h y]
  | .scope x => by simp [drOk, drOk_none ok h x]
  | .skip => rfl
  | .exit _ => rfl
  | .label _ => rfl
  | .goto _ => rfl
  | .ret => rfl
  | .refuse _ => rfl

theorem codeOk_of (h : ∀ p ∈ drl, ∀ fn b, fns p.1 = some fn → fn.body = some b → drOk (fun ops => regOk (conE cps) ops) (fun i => p.2.any (Nat.beq i)) b = true) : CodeOk (mkE tys gl fns drl kpl cps re) := by
  intro f fn b hf hb
  cases hl : lookN drl f with
  | none => exact drOk_none _ (fun i => by simp only [mkE]; rw [hl]) b
  | some l =>
    have := h _ (lookN_mem hl) fn b hf hb
    have e : (mkE tys gl fns drl kpl cps re).dr f = fun i => l.any (Nat.beq i) := by
      funext i
      simp only [mkE]
      rw [hl]
    rw [e]
    exact this

/-- A function of data: its contract, by the evaluator with tables. -/
theorem con_of (hS : SeatOk P tys fns) (hC : ∀ p ∈ cps, CpOk P gl p.1 p.2) (hT : ∀ p ∈ lps, p.2.2.Ok (mkT lps cps) (mkE tys gl fns drl kpl cps re) k p.1)
    (hd : ∀ p ∈ drl, ∀ fn b, fns p.1 = some fn → fn.body = some b → drOk (fun ops => regOk (conE cps) ops) (fun i => p.2.any (Nat.beq i)) b = true)
    {f : Nat} (hf : lookN cps f = none) (d : Nat) {args res : List Ty} {pre : DenL args → Bool} {spec : DenL args → DenL res}
    (he : ∀ xs, pre xs = true → (orcL (mkT lps cps) (mkE tys gl fns drl kpl cps re) k d).call f (ofRes args xs) [] (KD res) = some (spec xs))
    (hre : ReOk P (mkE (fun _ => none) gl (fun _ => none) [] [] [] re) := by intro _ _ _ _ _ _ h; cases h) : CpOk P gl f { args, res, pre, spec } := by
  have h1 := con_of_L (P := P) (T := mkT lps cps) (E := mkE tys gl fns drl kpl cps re) (k := k) (envOk_of hS hC) (fun _ => rfl) (tbOk_of hT) (codeOk_of hd)
    ⟨(fun ops h => (congrFun (regOk_con (E := (mkT lps cps).env (mkE tys gl fns drl kpl cps re)) (E' := conE cps) rfl) ops).trans h), hre⟩ (f := f) hf d (args := args) (res := res) (fun xs => bif pre xs then some (spec xs) else none) (fun xs y hy => by
      cases hpx : pre xs with
      | false => simp [hpx] at hy
      | true =>
        simp only [hpx, cond_true, Option.some.injEq] at hy
        subst hy
        exact he xs hpx)
  refine ConOk.env (E := mkE tys gl fns drl kpl cps re) rfl (ConOk.less h1 fun xs o ho => ?_)
  cases hpx : pre xs with
  | false => simp [hpx] at ho
  | true =>
    simp only [hpx, cond_true, Option.some.injEq] at ho
    subst ho
    simp [hpx]

/-- A contract that asks more. -/
theorem CpOk.less {f : Nat} {args res : List Ty} {pre pre' : DenL args → Bool} {spec spec' : DenL args → DenL res} (h : CpOk P gl f { args, res, pre, spec }) (hp : ∀ xs, pre' xs = true → pre xs = true ∧ spec' xs = spec xs) :
    CpOk P gl f { args, res, pre := pre', spec := spec' } := by
  refine ConOk.less h fun xs o ho => ?_
  cases hpx : pre' xs with
  | false => simp [hpx] at ho
  | true =>
    obtain ⟨h1, h2⟩ := hp xs hpx
    simp only [hpx, cond_true] at ho
    simp only [h1, cond_true, ← h2]
    exact ho
end
end Go.Fy

set_option linter.unusedVariables false
namespace Go.Fy
open Go.RowKit

def inL (l : List Nat) (i : Nat) : Bool := l.any (Nat.beq i)
theorem inL_iff {l : List Nat} {i : Nat} : inL l i = true ↔ i ∈ l := by
  unfold inL
  rw [List.any_eq_true]
  constructor
  · rintro ⟨x, hx, h⟩; rw [Nat.eq_of_beq_eq_true h]; exact hx
  · intro h; exact ⟨i, h, Nat.beq_refl i⟩
theorem inL_false {l : List Nat} {i : Nat} : inL l i = false ↔ i ∉ l := by
  rw [← inL_iff, Bool.not_eq_true]

/-- May come next. -/
def avail (ops : Array Oper) (done : List Nat) (i : Nat) : Bool := !inL done i && (match ops.toList[i]? with
  | some o => o.after.toList.all fun e => !Region.binds .any e || inL done e.on
  | none => false)
def commAt (E : Env) (ops : Array Oper) (p i : Nat) : Bool := match ops.toList[p]?, ops.toList[i]? with
  | some a, some b => commOk E ops.toList a b
  | _, _ => false
def direct (ops : Array Oper) (j i : Nat) : Bool := match ops.toList[j]? with
  | some o => o.after.toList.any fun e => Region.binds .any e && Nat.beq e.on i
  | none => false
/-- One that may come first, and it is no matter when it comes. -/
def prune (E : Env) (ops : Array Oper) (done : List Nat) (i : Nat) : Bool :=
  avail ops done i && (List.range ops.size).all fun j => inL done j || (Nat.beq j i || (direct ops j i || commAt E ops i j))
/-- Orders that stand for all. -/
def exts (E : Env) (ops : Array Oper) : Nat → List Nat → List (List Nat)
  | 0, _ => [[]]
  | f + 1, done => match (List.range ops.size).find? (prune E ops done) with
    | some i => (exts E ops f (i :: done)).map (i :: ·)
    | none => ((List.range ops.size).filter (avail ops done)).flatMap fun i => (exts E ops f (i :: done)).map (i :: ·)
def backOk (ops : Array Oper) : Bool := (List.range ops.size).all fun i => match ops.toList[i]? with
  | some o => o.after.toList.all fun e => decide (e.on < i)
  | none => false

inductive Lin (ops : Array Oper) : List Nat → List Nat → Prop
  | nil {done} (h : ∀ i, i < ops.size → i ∈ done) : Lin ops done []
  | cons {done i l} (h : avail ops done i = true) (t : Lin ops (i :: done) l) : Lin ops done (i :: l)

theorem avail_parts {ops : Array Oper} {done : List Nat} {i : Nat} (h : avail ops done i = true) : i ∉ done ∧ ∃ o, ops.toList[i]? = some o ∧ ∀ e ∈ o.after.toList, Region.binds .any e = true → e.on ∈ done := by
  simp only [avail, Bool.and_eq_true, Bool.not_eq_true', inL_false] at h
  refine ⟨h.1, ?_⟩
  have h2 := h.2
  split at h2
  · rename_i o ho
    refine ⟨o, ho, fun e he hb => ?_⟩
    have := List.all_eq_true.1 h2 e he
    simpa [hb, inL_iff] using this
  · cases h2
theorem avail_of {ops : Array Oper} {done : List Nat} {i : Nat} {o : Oper} (h1 : i ∉ done) (ho : ops.toList[i]? = some o) (h2 : ∀ e ∈ o.after.toList, Region.binds .any e = true → e.on ∈ done) : avail ops done i = true := by
  simp only [avail, Bool.and_eq_true, Bool.not_eq_true', inL_false]
  refine ⟨h1, ?_⟩
  rw [ho]
  refine List.all_eq_true.2 fun e he => ?_
  cases hb : Region.binds .any e with
  | false => rfl
  | true => simpa [inL_iff] using h2 e he hb
theorem avail_lt {ops : Array Oper} {done : List Nat} {i : Nat} (h : avail ops done i = true) : i < ops.size := by
  obtain ⟨_, o, ho, _⟩ := avail_parts h
  simpa using (List.getElem?_eq_some_iff.1 ho).1
theorem avail_congr {ops : Array Oper} {d d' : List Nat} (h : ∀ j, j ∈ d ↔ j ∈ d') {i : Nat} (ha : avail ops d i = true) : avail ops d' i = true := by
  obtain ⟨h1, o, ho, h2⟩ := avail_parts ha
  exact avail_of (fun hh => h1 ((h i).2 hh)) ho fun e he hb => (h _).1 (h2 e he hb)
theorem Lin.congr {ops : Array Oper} {d l : List Nat} (hl : Lin ops d l) : ∀ {d' : List Nat}, (∀ j, j ∈ d ↔ j ∈ d') → Lin ops d' l := by
  induction hl with
  | nil h => intro d' hd; exact .nil fun i hi => (hd i).1 (h i hi)
  | cons h t ih => intro d' hd; exact .cons (avail_congr hd h) (ih fun j => by simp [hd])
theorem Lin.mem {ops : Array Oper} {d l : List Nat} (hl : Lin ops d l) : ∀ {i : Nat}, i < ops.size → i ∈ d ∨ i ∈ l := by
  induction hl with
  | nil h => intro i hi; exact .inl (h i hi)
  | cons h t ih =>
    intro i hi
    rcases ih hi with h1 | h1
    · rcases List.mem_cons.1 h1 with h1 | h1
      · subst h1; exact .inr (by simp)
      · exact .inl h1
    · exact .inr (by simp [h1])

/-- One that may come first is taken out. -/
theorem lin_pull {ops : Array Oper} {i0 : Nat} {post : List Nat} : ∀ (pre done : List Nat), Lin ops done (pre ++ i0 :: post) → avail ops done i0 = true → i0 ∉ pre →
    Lin ops (i0 :: done) (pre ++ post) ∧ ∀ p ∈ pre, p < ops.size ∧ p ∉ done ∧ direct ops p i0 = false
  | [], done, h, _, _ => by
    cases h with
    | cons h t => exact ⟨t, fun p hp => by cases hp⟩
  | p :: pre, done, h, ha, hn => by
    simp only [List.mem_cons, not_or] at hn
    cases h with
    | cons h t =>
      obtain ⟨h1, o, ho, h2⟩ := avail_parts ha
      obtain ⟨h3, o3, ho3, h4⟩ := avail_parts h
      have ha' : avail ops (p :: done) i0 = true := avail_of (by simp [hn.1, h1]) ho fun e he hb => by simp [h2 e he hb]
      obtain ⟨h5, h6⟩ := lin_pull pre (p :: done) t ha' hn.2
      have hp : avail ops (i0 :: done) p = true := avail_of (by simp [h3]; exact fun e => hn.1 e.symm) ho3 fun e he hb => by simp [h4 e he hb]
      refine ⟨.cons hp (h5.congr fun j => by simp; constructor <;> (rintro (h | h | h) <;> simp [h])), fun q hq => ?_⟩
      rcases List.mem_cons.1 hq with hq | hq
      · subst hq
        refine ⟨avail_lt h, h3, ?_⟩
        unfold direct
        rw [ho3]
        cases hd : o3.after.toList.any fun e => Region.binds .any e && Nat.beq e.on i0 with
        | false => exact hd
        | true =>
          exfalso
          obtain ⟨e, he, hb⟩ := List.any_eq_true.1 hd
          simp only [Bool.and_eq_true] at hb
          have := h4 e he hb.1
          rw [Nat.eq_of_beq_eq_true hb.2] at this
          exact h1 this
      · obtain ⟨h7, h8, h9⟩ := h6 q hq
        exact ⟨h7, fun hh => h8 (by simp [hh]), h9⟩

section
variable {E : Env} {ρ : Type} {r : ρ} {orc : Orc ρ}

/-- What comes of one order comes of the other. -/
def Reach (E : Env) (orc : Orc ρ) (r : ρ) (ops : Array Oper) (e l : List Nat) : Prop := ∀ (ts : List PV) (h : List Blk) (lg : List Nat) (K : List PV → List Blk → List Nat → Option ρ),
  evOps E orc ops.toList (opsAt ops e) ts h lg K nKV = some r → evOps E orc ops.toList (opsAt ops l) ts h lg K nKV = some r

theorem opsAt_cons {ops : Array Oper} {i : Nat} {o : Oper} (h : ops.toList[i]? = some o) (l : List Nat) : opsAt ops (i :: l) = o :: opsAt ops l := by
  unfold opsAt
  rw [List.filterMap_cons, h]
theorem opsAt_append {ops : Array Oper} (l m : List Nat) : opsAt ops (l ++ m) = opsAt ops l ++ opsAt ops m := by
  unfold opsAt
  rw [List.filterMap_append]

theorem Reach.cons (hX : OrcX orc) {ops : Array Oper} {i : Nat} {e l : List Nat} (h : Reach E orc r ops e l) : Reach E orc r ops (i :: e) (i :: l) := by
  intro ts hp lg K he
  cases ho : ops.toList[i]? with
  | none =>
    have : ∀ l, opsAt ops (i :: l) = opsAt ops l := fun l => by unfold opsAt; rw [List.filterMap_cons, ho]
    rw [this] at he ⊢
    exact h ts hp lg K he
  | some o =>
    rw [opsAt_cons ho] at he ⊢
    have e1 := evOps_append (E := E) (orc := orc) (all := ops.toList) [o] (opsAt ops e) (ts := ts) (h := hp) (lg := lg) (K := K)
    have e2 := evOps_append (E := E) (orc := orc) (all := ops.toList) [o] (opsAt ops l) (ts := ts) (h := hp) (lg := lg) (K := K)
    simp only [List.singleton_append] at e1 e2
    rw [e1] at he
    rw [e2]
    refine evOps_mono hX he fun ts' h' hk => ?_
    rcases evOps_x hX _ he with ⟨_, _, _, _⟩ | ⟨_, _, hh, _⟩
    · exact h ts' h' lg K hk
    · cases hh

/-- An operation goes back. -/
theorem move_back (hX : OrcX orc) {all : List Oper} {o : Oper} : ∀ (pre post : List Oper) {ts : List PV} {h : List Blk} {lg : List Nat} {K : List PV → List Blk → List Nat → Option ρ}, (∀ p ∈ pre, commOk E all o p = true) →
    evOps E orc all (o :: (pre ++ post)) ts h lg K nKV = some r → evOps E orc all (pre ++ o :: post) ts h lg K nKV = some r
  | [], post, ts, h, lg, K, _, he => he
  | p :: pre, post, ts, h, lg, K, hc, he => by
    have h3 : evOps E orc all (o :: p :: (pre ++ post)) ts h lg K nKV = some r := he
    rw [evOps_two] at h3
    have h4 := swap hX (hc p (by simp)) h3
    have h5 : evOps E orc all (p :: o :: (pre ++ post)) ts h lg K nKV = some r := h4
    have e1 := evOps_append (E := E) (orc := orc) (all := all) [p] (o :: (pre ++ post)) (ts := ts) (h := h) (lg := lg) (K := K)
    have e2 := evOps_append (E := E) (orc := orc) (all := all) [p] (pre ++ o :: post) (ts := ts) (h := h) (lg := lg) (K := K)
    simp only [List.singleton_append] at e1 e2
    rw [e1] at h5
    rw [List.cons_append, e2]
    exact evOps_mono hX h5 fun ts' h' hk => move_back hX pre post (fun q hq => hc q (by simp [hq])) hk

theorem exts_cover (hX : OrcX orc) {ops : Array Oper} : ∀ (f : Nat) (done l : List Nat), Lin ops done l → l.length = f → ∃ e ∈ exts E ops f done, Reach E orc r ops e l
  | 0, done, l, _, hl => by
    rw [List.eq_nil_of_length_eq_zero hl]
    exact ⟨[], by simp [exts], fun _ _ _ _ h => h⟩
  | f + 1, done, l, hL, hl => by
    rw [exts]
    split
    · rename_i i0 hf
      have hp := List.find?_some hf
      unfold prune at hp
      simp only [Bool.and_eq_true] at hp
      obtain ⟨ha, hall⟩ := hp
      obtain ⟨hnd, o, ho, _⟩ := avail_parts ha
      have hmem : i0 ∈ l := by
        rcases hL.mem (avail_lt ha) with h | h
        · exact absurd h hnd
        · exact h
      obtain ⟨pre, post, rfl, hnp⟩ := List.eq_append_cons_of_mem hmem
      obtain ⟨hL2, hq⟩ := lin_pull pre done hL ha hnp
      obtain ⟨e1, he1, hr1⟩ := exts_cover hX f (i0 :: done) (pre ++ post) hL2 (by simp at hl ⊢; omega)
      refine ⟨i0 :: e1, List.mem_map.2 ⟨e1, he1, rfl⟩, fun ts h lg K hev => ?_⟩
      have h1 := hr1.cons hX (i := i0) ts h lg K hev
      rw [opsAt_cons ho, opsAt_append] at h1
      rw [opsAt_append, opsAt_cons ho]
      refine move_back hX _ _ (fun p hp => ?_) h1
      simp only [opsAt, List.mem_filterMap] at hp
      obtain ⟨j, hj, hjp⟩ := hp
      obtain ⟨h2, h3, h4⟩ := hq j hj
      have := List.all_eq_true.1 hall j (List.mem_range.2 h2)
      have hne : Nat.beq j i0 = false := by
        cases hb : Nat.beq j i0 with
        | false => rfl
        | true => rw [Nat.eq_of_beq_eq_true hb] at hj; exact absurd hj hnp
      rw [inL_false.2 h3, hne, h4] at this
      simp only [Bool.false_or, commAt, ho, hjp] at this
      exact this
    · cases hL with
      | nil h => simp at hl
      | cons h t =>
        rename_i i l
        obtain ⟨e1, he1, hr1⟩ := exts_cover hX f (i :: done) l t (by simpa using hl)
        exact ⟨i :: e1, List.mem_flatMap.2 ⟨i, List.mem_filter.2 ⟨List.mem_range.2 (avail_lt h), h⟩, List.mem_map.2 ⟨e1, he1, rfl⟩⟩, hr1.cons hX⟩
end
end Go.Fy

set_option linter.unusedVariables false
namespace Go.Fy
open Go.RowKit

theorem back_at {ops : Array Oper} (h : backOk ops = true) {i : Nat} {o : Oper} (hi : ops.toList[i]? = some o) : ∀ e ∈ o.after.toList, e.on < i := by
  have hlt : i < ops.size := by simpa using (List.getElem?_eq_some_iff.1 hi).1
  have h1 := List.all_eq_true.1 h i (List.mem_range.2 hlt)
  rw [hi] at h1
  intro e he
  simpa using List.all_eq_true.1 h1 e he

/-- The first that is left may come next. -/
theorem first_avail {ops : Array Oper} (hb : backOk ops = true) {done : List Nat} {i0 : Nat} (h1 : i0 < ops.size) (h2 : i0 ∉ done) (h3 : ∀ j, j < i0 → j ∈ done) : avail ops done i0 = true := by
  have ho : ops.toList[i0]? = some ops[i0] := by rw [Array.getElem?_toList]; exact Array.getElem?_eq_getElem h1
  exact avail_of h2 ho fun e he _ => h3 _ (back_at hb ho e he)
theorem first_left (n : Nat) (done : List Nat) : (∀ i, i < n → i ∈ done) ∨ ∃ i, i < n ∧ i ∉ done ∧ ∀ j, j < i → j ∈ done := by
  induction n with
  | zero => exact .inl fun i hi => by omega
  | succ n ih =>
    rcases ih with h | ⟨i, h1, h2, h3⟩
    · by_cases hn : n ∈ done
      · exact .inl fun i hi => by
          by_cases e : i = n
          · subst e; exact hn
          · exact h i (by omega)
      · exact .inr ⟨n, by omega, hn, h⟩
    · exact .inr ⟨i, by omega, h2, h3⟩

def left (n : Nat) (done : List Nat) : Nat := ((List.range n).filter fun j => !inL done j).length
theorem left_cons {n : Nat} {done : List Nat} {i : Nat} (h : i < n) (hd : i ∉ done) : left n (i :: done) < left n done := by
  unfold left
  have hs : ((List.range n).filter fun j => !inL done j).Pairwise (· < ·) := (List.pairwise_lt_range).filter _
  obtain ⟨pre, post, h1, _, h2⟩ := split_filter (i := i) hs (by simp [List.mem_range, h, inL_false, hd])
  have : ((List.range n).filter fun j => !inL (i :: done) j) = pre ++ post := by
    rw [← h2, List.filter_filter]
    apply List.filter_congr
    intro j _
    by_cases hij : j = i
    · subst hij
      have : inL (j :: done) j = true := inL_iff.2 (by simp)
      simp [this]
    · cases hj : inL done j with
      | true =>
        have : inL (i :: done) j = true := inL_iff.2 (by simp [inL_iff.1 hj])
        simp [this]
      | false =>
        have : inL (i :: done) j = false := inL_false.2 (by simp [hij, inL_false.1 hj])
        simp [this, hij]
  rw [this, h1]
  simp
theorem lin_ex {ops : Array Oper} (hb : backOk ops = true) : ∀ (f : Nat) (done : List Nat), left ops.size done ≤ f → ∃ l, Lin ops done l
  | f, done, hf => by
    rcases first_left ops.size done with h | ⟨i, h1, h2, h3⟩
    · exact ⟨[], .nil h⟩
    · have := left_cons h1 h2
      cases f with
      | zero => omega
      | succ f =>
        obtain ⟨l, hl⟩ := lin_ex hb f (i :: done) (by omega)
        exact ⟨i :: l, .cons (first_avail hb h1 h2 h3) hl⟩

section
variable {P : Program} {E : Env} {w0 : World} {ok0 : Nat → Prop} {ρ : Type} {r : ρ} {orc : Orc ρ} {ro : Option Nat} {n : Nat} {Q : Exit → Act → World → Prop}

theorem all_sound (hE : EnvOk P E) (hO : OrcOk P w0 ok0 orc) (hX : OrcX orc) (hg0 : GOk E w0 ok0) {ops : Array Oper} (hback : backOk ops = true) {md : Region.Mode} {ds : List Deferred} {lg : List Nat}
    {K : List PV → List Blk → List Nat → Option ρ} {c0 : Cx} (hK : ∀ c' ts' (a' : Act), Mv w0 c0 c' → TS c' ts' a'.tmps → a'.defers = ds → K ts' c'.H lg = some r → Q .normal a' c'.w) :
    ∀ (fuel : Nat) (listed : Array Bool) (done : List Nat) (c : Cx) (ts : List PV) (a : Act), listed.size = ops.size → (∀ j, j < ops.size → (listed.getD j false = true ↔ j ∈ done)) → left ops.size done = fuel →
      (∀ l, Lin ops done l → evOps E orc ops.toList (opsAt ops l) ts c.H lg K nKV = some r) → Mv w0 c0 c → c.ok0 = ok0 → TS c ts a.tmps → a.defers = ds → wpAnyIn (W ro) n P md ops Q fuel listed a c.w := by
  -- what comes next may come next
  have rdy : ∀ (listed : Array Bool) (done : List Nat), listed.size = ops.size → (∀ j, j < ops.size → (listed.getD j false = true ↔ j ∈ done)) → ∀ i, i ∈ Region.ready md ops listed → avail ops done i = true ∧ ∃ o, ops[i]? = some o := by
    intro listed done hs hd i hi
    unfold Region.ready at hi
    simp only [List.mem_filter, List.mem_range, Bool.and_eq_true, Bool.not_eq_true'] at hi
    obtain ⟨h1, h2, h3⟩ := hi
    rw [getD_tf (by omega)] at h2
    have ho : ops.toList[i]? = some ops[i] := by rw [Array.getElem?_toList]; exact Array.getElem?_eq_getElem h1
    refine ⟨avail_of (fun hh => by rw [(hd i h1).2 hh] at h2; cases h2) ho fun e he hb => ?_, ops[i], Array.getElem?_eq_getElem h1⟩
    rw [Array.getElem?_eq_getElem h1] at h3
    simp only [Option.map_some, Option.getD_some, Array.all_eq_true_iff_forall_mem] at h3
    have h4 := h3 e (by simpa using he)
    have h5 := back_at hback ho e he
    rw [binds_any hb] at h4
    exact (hd e.on (by omega)).1 (by simpa using h4)
  intro fuel
  induction fuel with
  | zero =>
    intro listed done c ts a hs hd hl he hm h0 ht hdf
    have hall : ∀ i, i < ops.size → i ∈ done := by
      rcases first_left ops.size done with h | ⟨i, h1, h2, _⟩
      · exact h
      · have := left_cons h1 h2; omega
    rw [wpAnyIn]
    refine ⟨?_, hK c ts a hm ht hdf (he [] (.nil hall))⟩
    apply List.eq_nil_iff_forall_not_mem.2
    intro i hi
    obtain ⟨h1, _⟩ := rdy listed done hs hd i hi
    exact (avail_parts h1).1 (hall i (avail_lt h1))
  | succ fuel ih =>
    intro listed done c ts a hs hd hl he hm h0 ht hdf
    rw [wpAnyIn]
    refine ⟨fun hr => ?_, fun i hi => ?_⟩
    · exfalso
      rcases first_left ops.size done with h | ⟨i, h1, h2, h3⟩
      · have : left ops.size done = 0 := by
          unfold left
          rw [List.length_eq_zero_iff, List.filter_eq_nil_iff]
          intro j hj
          simp [inL_iff.2 (h j (List.mem_range.1 hj))]
        omega
      · have : i ∈ Region.ready md ops listed := by
          unfold Region.ready
          simp only [List.mem_filter, List.mem_range, Bool.and_eq_true, Bool.not_eq_true']
          have ho : ops.toList[i]? = some ops[i] := by rw [Array.getElem?_toList]; exact Array.getElem?_eq_getElem h1
          refine ⟨h1, ?_, ?_⟩
          · rw [getD_tf (by omega)]
            cases hh : listed.getD i false with
            | false => rfl
            | true => exact absurd ((hd i h1).1 hh) h2
          · rw [Array.getElem?_eq_getElem h1]
            simp only [Option.map_some, Option.getD_some, Array.all_eq_true_iff_forall_mem]
            intro e he'
            cases hb : Region.binds md e with
            | false => rfl
            | true =>
              have h5 := back_at hback ho e (by simpa using he')
              simpa using (hd e.on (by omega)).2 (h3 _ h5)
        rw [hr] at this
        cases this
    · obtain ⟨hav, o, ho⟩ := rdy listed done hs hd i hi
      have hil := avail_lt hav
      have hol : ops.toList[i]? = some o := by rw [Array.getElem?_toList]; exact ho
      obtain ⟨l0, hl0⟩ := lin_ex hback _ (i :: done) (Nat.le_refl _)
      have ex : ∀ l, evOps E orc ops.toList (opsAt ops (i :: l)) ts c.H lg K nKV = evOps E orc ops.toList [o] ts c.H lg (fun ts' h' lg' => evOps E orc ops.toList (opsAt ops l) ts' h' lg' K nKV) nKV := by
        intro l
        rw [opsAt_cons hol, ← evOps_append]
        rfl
      have h1 := he (i :: l0) (.cons hav hl0)
      rw [ex] at h1
      rcases evOps_x hX _ h1 with ⟨ts1, h1', hk1, hall⟩ | ⟨_, _, hh, _⟩
      · have hnext : ∀ l, Lin ops (i :: done) l → evOps E orc ops.toList (opsAt ops l) ts1 h1' lg K nKV = some r := by
          intro l hl'
          have := he (i :: l) (.cons hav hl')
          rw [ex, hall] at this
          exact this
        have hstep : evG E orc ops.toList ts c.H o (fun ts' h' _ => (open Classical in if ts' = ts1 ∧ h' = h1' then some r else none)) nKV = some r := by
          have := hall (fun ts' h' _ => (open Classical in if ts' = ts1 ∧ h' = h1' then some r else none)) nKV
          rw [if_pos ⟨rfl, rfl⟩] at this
          exact this
        refine stepOp_sound hE hO hg0 ho (ds := ds) hstep hm.rel h0 ht hdf ?_
        intro c' ts' a' lg' hm' ht' hd' hk
        have hboth : ts' = ts1 ∧ c'.H = h1' := by
          by_cases hc : ts' = ts1 ∧ c'.H = h1'
          · exact hc
          · rw [if_neg hc] at hk; cases hk
        obtain ⟨e1, e2⟩ := hboth
        subst e1
        refine ih (listed.setIfInBounds i true) (i :: done) c' ts' a' (by simp [hs]) ?_ ?_ (by rw [e2]; exact hnext) (hm.trans hm') (hm'.ok0.trans h0) ht' hd'
        · intro j hj
          by_cases hij : i = j
          · subst hij
            simp [Array.getD, hs, hil]
          · have : (listed.setIfInBounds i true).getD j false = listed.getD j false := by simp [Array.getD, hs, hj, hij]
            rw [this, hd j hj]
            simp [Ne.symm hij]
        · have hnd := (avail_parts hav).1
          have h2 := left_cons hil hnd
          -- exactly one less
          have h3 : left ops.size done = left ops.size (i :: done) + 1 := by
            unfold left
            have hsr : ((List.range ops.size).filter fun j => !inL done j).Pairwise (· < ·) := (List.pairwise_lt_range).filter _
            obtain ⟨pre, post, g1, _, g2⟩ := split_filter (i := i) hsr (by simp [List.mem_range, hil, inL_false, hnd])
            have : ((List.range ops.size).filter fun j => !inL (i :: done) j) = pre ++ post := by
              rw [← g2, List.filter_filter]
              apply List.filter_congr
              intro j _
              by_cases hij : j = i
              · subst hij
                have : inL (j :: done) j = true := inL_iff.2 (by simp)
                simp [this]
              · cases hj : inL done j with
                | true =>
                  have : inL (i :: done) j = true := inL_iff.2 (by simp [inL_iff.1 hj])
                  simp [this]
                | false =>
                  have : inL (i :: done) j = false := inL_false.2 (by simp [hij, inL_false.1 hj])
                  simp [this, hij]
            rw [this, g1]
            simp; omega
          omega
      · cases hh

/-- A row that a cell alone leads to is a datum from now on. -/
def settle1 (h : List Blk) (b i : Nat) : List Blk := match h[b]? with
  | some (.cells us) => match us[i]? with
    | some (.ro rb ver off len) => match h[rb]? with
      | some (.row _ t xs u) => bif Nat.beq ver u && !Nat.beq rb b then (h.set rb .dead).set b (.cells (us.set i (.d (.sl t) ((xs.drop off).take len)))) else h
      | _ => h
    | _ => h
  | _ => h
def settle (h : List Blk) : List (Nat × Nat) → List Blk
  | [] => h
  | p :: r => settle (settle1 h p.1 p.2) r

theorem settle1_sound {c : Cx} (hr : Rel w0 c) (b i : Nat) : ∃ c', Mv w0 c c' ∧ c'.w = c.w ∧ c'.H = settle1 c.H b i := by
  unfold settle1
  split
  · rename_i us hb
    split
    · rename_i rb ver off len hi
      split
      · rename_i e t xs u hrow
        cases hc : Nat.beq ver u && !Nat.beq rb b with
        | false => exact ⟨c, Mv.refl hr, rfl, rfl⟩
        | true =>
          simp only [cond_true]
          simp only [Bool.and_eq_true, Bool.not_eq_true'] at hc
          have hv := Nat.eq_of_beq_eq_true hc.1
          have hne : rb ≠ b := fun e => by rw [e, Nat.beq_refl] at hc; exact absurd hc.2 (by simp)
          have hm1 : Mv w0 c (c.kill rb) := ⟨kill_rel hr rb, kill_ext c rb, rfl⟩
          have hb1 : (c.kill rb).H[b]? = some (.cells us) := by simp only [Cx.kill]; rw [List.getElem?_set_ne hne]; exact hb
          obtain ⟨cs, e0, hh, hu, hw⟩ := hr.blk b _ hb
          -- the cell
          have hil := (List.getElem?_eq_some_iff.1 hi).1
          have hus : us = us.take i ++ .ro rb ver off len :: us.drop (i + 1) := by
            have := (List.getElem?_eq_some_iff.1 hi).2
            rw [← this, List.getElem_cons_drop, List.take_append_drop]
          have hset : us.set i (.d (.sl t) ((xs.drop off).take len)) = us.take i ++ .d (.sl t) ((xs.drop off).take len) :: us.drop (i + 1) := by
            rw [List.set_eq_take_append_cons_drop, if_pos hil]
          have hu0 := hu
          rw [hus] at hu0
          obtain ⟨a, d, e1, h1, h2⟩ := (URs_append _ _ _).1 hu0
          obtain ⟨a2, d2, e2, h3, h4⟩ := URs_cons.1 h2
          obtain ⟨v, e3, ho, hvr⟩ := h3
          have hxs : toD c.H (.sl t) (.ro rb ver off len) = some ((xs.drop off).take len) := by
            simp [toD, rowOf, hrow, hv, cast?]
          have hl : live c.H rb := ⟨_, hrow, by simp⟩
          have hok : (c.kill rb).ok (c.bs.getD rb 0) := by
            refine .inr ?_
            have hg := hr.rng rb hl
            refine ⟨hg.1, hg.2, fun j hj => ?_⟩
            obtain ⟨hj1, hj2⟩ := live_kill hj
            exact fun he => hj2 (hr.inj j rb hj1 hl he).symm
          have hdv := toD_sound hr hxs hvr (c.kill rb).ok hm1.ext.keeps.okk (fun j hj hro => by
            obtain ⟨v', o', l', he⟩ := hro rfl
            injection he with he
            subst he
            exact hok)
          let c2 : Cx := (c.kill rb).turn b (.cells (us.set i (.d (.sl t) ((xs.drop off).take len)))) (c.kill rb).w
          have ht : Turns (c.kill rb) b (.cells (us.set i (.d (.sl t) ((xs.drop off).take len)))) (c.kill rb).w := ⟨Below.refl _ _, rfl, fun _ _ => rfl⟩
          have hshp : (us.set i (.d (.sl t) ((xs.drop off).take len))).map shp = us.map shp := by
            rw [hset]
            conv => rhs; rw [hus]
            simp [shp]
          have hg : Goes (c.kill rb) c2 b (.cells us) (.cells (us.set i (.d (.sl t) ((xs.drop off).take len)))) := ⟨hshp, rfl⟩
          have hx2 := turn_ext hm1.rel hb1 (by simp) (by simp) ht hg
          have hbr : BR c2 b (.cells (us.set i (.d (.sl t) ((xs.drop off).take len)))) := by
            refine ⟨cs, e0, hh, ?_, ?_⟩
            · have hx : Ext c c2 := hm1.ext.trans hx2
              rw [hset, e1, e2]
              refine (URs_append _ _ _).2 ⟨a, _, rfl, URs.ext hx _ _ h1, URs_cons.2 ⟨a2, d2, rfl, ?_, URs.ext hx _ _ h4⟩⟩
              obtain ⟨cs', g1, g2⟩ := hdv.keeps hx2.keeps
              have : a2 = cs' := by
                obtain ⟨aa, cap, g3, _⟩ := g1
                rw [e3, g2, g3]
                rfl
              rw [this]
              exact g1
            · intro u hu'
              rcases List.mem_or_eq_of_mem_set hu' with h | h
              · exact hw u h
              · rw [h]; rfl
          exact ⟨c2, hm1.trans ⟨turn_rel hm1.rel hb1 (by simp) (by simp) ht hg hbr, hx2, rfl⟩, rfl, rfl⟩
      · exact ⟨c, Mv.refl hr, rfl, rfl⟩
    · exact ⟨c, Mv.refl hr, rfl, rfl⟩
  · exact ⟨c, Mv.refl hr, rfl, rfl⟩
theorem settle_sound : ∀ (l : List (Nat × Nat)) {c : Cx}, Rel w0 c → ∃ c', Mv w0 c c' ∧ c'.w = c.w ∧ c'.H = settle c.H l
  | [], c, hr => ⟨c, Mv.refl hr, rfl, rfl⟩
  | p :: l, c, hr => by
    obtain ⟨c1, h1, h2, h3⟩ := settle1_sound hr p.1 p.2
    obtain ⟨c2, h4, h5, h6⟩ := settle_sound l h1.rel
    exact ⟨c2, h1.trans h4, h5.trans h2, by rw [h6, h3]; rfl⟩

/-- What a region's end is read as: what nobody asks for is let go. -/
def canon (kl : Option (List Nat)) (n : Nat) (sl : List (Nat × Nat)) (ts : List PV) (h : List Blk) : List PV × List Blk :=
  ((gcT kl n { ts := ts, h := settle h sl, df := [], wl := [] }).ts, (gcT kl n { ts := ts, h := settle h sl, df := [], wl := [] }).h)

theorem lin_len {ops : Array Oper} {d l : List Nat} (h : Lin ops d l) : l.length = left ops.size d := by
  induction h with
  | nil h =>
    symm
    unfold left
    rw [List.length_nil, List.length_eq_zero_iff, List.filter_eq_nil_iff]
    intro j hj
    simp [inL_iff.2 (h j (List.mem_range.1 hj))]
  | @cons done i l h t ih =>
    have hil := avail_lt h
    have hnd := (avail_parts h).1
    rw [List.length_cons, ih]
    unfold left
    have hsr : ((List.range ops.size).filter fun j => !inL done j).Pairwise (· < ·) := (List.pairwise_lt_range).filter _
    obtain ⟨pre, post, g1, _, g2⟩ := split_filter (i := i) hsr (by simp [List.mem_range, hil, inL_false, hnd])
    have : ((List.range ops.size).filter fun j => !inL (i :: done) j) = pre ++ post := by
      rw [← g2, List.filter_filter]
      apply List.filter_congr
      intro j _
      by_cases hij : j = i
      · subst hij
        have : inL (j :: done) j = true := inL_iff.2 (by simp)
        simp [this]
      · cases hj : inL done j with
        | true =>
          have : inL (i :: done) j = true := inL_iff.2 (by simp [inL_iff.1 hj])
          simp [this]
        | false =>
          have : inL (i :: done) j = false := inL_false.2 (by simp [hij, inL_false.1 hj])
          simp [this, hij]
    rw [this, g1]
    simp; omega

/-- A region that draws, by all its orders. -/
theorem reg_sem (hE : EnvOk P E) (hC : CodeOk E) (hok : (∀ ops, E.ok ops = true → regOk E ops = true) ∧ ReOk P E) (k d : Nat) {id : Nat} {ops : Array Oper} {kl : Option (List Nat)} {sl : List (Nat × Nat)} {ts : List PV} {h : List Blk} {out : List PV × List Blk × List Nat}
    (hback : backOk ops = true) (hev : ∀ e ∈ exts E ops ops.size [], evOps E (orcN (ρ := List PV × List Blk) E k d) ops.toList (opsAt ops e) ts h [] (fun ts' h' _ => some (canon kl h.length sl ts' h')) nKV = some (out.1, out.2.1)) : RegSem P E id ops ts h out := by
  intro w0 ok0 ro n Q c a hg0 hr h0 hh ht hK
  have hm := on_mv hr (below_drew c.w c.w.heap.size)
  have hO := orc_sound (ρ := List PV × List Blk) (w0 := w0) (ok0 := ok0) hE hg0 hC hok k d
  have hX := orcN_x (ρ := List PV × List Blk) E k d
  have hl0 : left ops.size [] = ops.size := by
    unfold left
    rw [List.filter_eq_self.2]
    · simp
    · intro j _; simp [inL]
  refine wpIn_region_draw fun t => ?_
  have go : ∀ md t, wpOpsIn (W ro) n P ops Q (Region.linearise.go md ops ops.size t (Array.replicate ops.size false) []) a c.w.drew := by
    intro md t
    apply wpAnyIn_sound
    refine all_sound (r := (out.1, out.2.1)) hE hO hX hg0 hback (c0 := c.on c.w.drew) (K := fun ts' h' _ => some (canon kl h.length sl ts' h')) (lg := []) (ds := a.defers) ?_ ops.size _ [] (c.on c.w.drew) ts a (by simp) ?_ hl0 ?_ (Mv.refl hm.rel) h0 (ht.ext hm.ext) rfl
    · intro c' ts' a' hm' ht' hd' hk
      injection hk with hk
      obtain ⟨c1, g1, g2, g3⟩ := settle_sound sl hm'.rel
      obtain ⟨c'', h1, h2, h3, h4, _⟩ := gcT_sound ((hm.trans hm').trans g1) kl (n0 := h.length) (by rw [← hh]) (σ := { ts := ts', h := settle c'.H sl, df := [], wl := [] }) (tm := a'.tmps) (ds := []) (ht'.ext g1.ext) g3.symm (by simp [DF])
      have e1 : (gcT kl h.length { ts := ts', h := settle c'.H sl, df := [], wl := [] }).ts = out.1 := congrArg Prod.fst hk
      have e2 : (gcT kl h.length { ts := ts', h := settle c'.H sl, df := [], wl := [] }).h = out.2.1 := congrArg Prod.snd hk
      rw [← g2, ← h2]
      exact hK c'' a' h1 (by rw [← h4, e2]) (by rw [← e1]; exact h3) hd'
    · intro j hj
      simp [Array.getD, hj]
    · intro l hl
      obtain ⟨e, he, hre⟩ := exts_cover (E := E) (r := (out.1, out.2.1)) hX ops.size [] l hl (by rw [lin_len hl, hl0])
      apply hre
      have := hev e he
      rw [← hh] at this ⊢
      exact this
  unfold Region.schedule
  split
  · exact go _ _
  · exact go _ _
end
end Go.Fy

set_option linter.unusedVariables false
namespace Go.Fy
open Go.RowKit

def teqL {α : Type} (f : α → α → Bool) : List α → List α → Bool
  | [], [] => true
  | x :: xs, y :: ys => f x y && teqL f xs ys
  | _, _ => false
theorem teqL_ok {α : Type} {f : α → α → Bool} (h : ∀ x y, f x y = true → x = y) : ∀ xs ys, teqL f xs ys = true → xs = ys
  | [], [], _ => rfl
  | [], _ :: _, e => by simp [teqL] at e
  | _ :: _, [], e => by simp [teqL] at e
  | x :: xs, y :: ys, e => by
    simp only [teqL, Bool.and_eq_true] at e
    rw [h x y e.1, teqL_ok h xs ys e.2]
/-- Are two data the same? -/
def teq : (t : Ty) → t.den → t.den → Bool
  | .bool, x, y => x == y
  | .int _, x, y => decide (x = y)
  | .str, x, y => teqL (fun a b => decide (a = b)) x y
  | .sl t, x, y => teqL (teq t) x y
  | .arr _ t, x, y => teqL (teq t) x y
  | .nil, _, _ => true
  | .cons a b, x, y => teq a x.1 y.1 && teq b x.2 y.2
theorem teq_ok : ∀ (t : Ty) (x y : t.den), teq t x y = true → x = y
  | .bool, x, y, h => by simpa [teq] using h
  | .int _, x, y, h => by simpa [teq] using h
  | .str, x, y, h => teqL_ok (fun a b h => by simpa using h) x y h
  | .sl t, x, y, h => teqL_ok (teq_ok t) x y h
  | .arr _ t, x, y, h => teqL_ok (teq_ok t) x y h
  | .nil, _, _, _ => rfl
  | .cons a b, x, y, h => by
    simp only [teq, Bool.and_eq_true] at h
    exact Prod.ext (teq_ok a _ _ h.1) (teq_ok b _ _ h.2)
def heq : (hs : List HT) → DenH hs → DenH hs → Bool
  | [], _, _ => true
  | .d t :: hs, x, y => teq t x.1 y.1 && heq hs x.2 y.2
  | .n :: hs, x, y => Nat.beq x.1 y.1 && heq hs x.2 y.2
theorem heq_ok : ∀ (hs : List HT) (x y : DenH hs), heq hs x y = true → x = y
  | [], _, _, _ => rfl
  | .d t :: hs, x, y, h => by
    simp only [heq, Bool.and_eq_true] at h
    exact Prod.ext (teq_ok t _ _ h.1) (heq_ok hs _ _ h.2)
  | .n :: hs, x, y, h => by
    simp only [heq, Bool.and_eq_true] at h
    exact Prod.ext (Nat.eq_of_beq_eq_true h.1) (heq_ok hs _ _ h.2)
def leq : (ts : List Ty) → DenL ts → DenL ts → Bool
  | [], _, _ => true
  | t :: ts, x, y => teq t x.1 y.1 && leq ts x.2 y.2
theorem leq_ok : ∀ (ts : List Ty) (x y : DenL ts), leq ts x y = true → x = y
  | [], _, _, _ => rfl
  | t :: ts, x, y, h => by
    simp only [leq, Bool.and_eq_true] at h
    exact Prod.ext (teq_ok t _ _ h.1) (leq_ok ts _ _ h.2)

/-- A code's region. -/
def regOps (i : Nat) : Code → Option (Array Oper)
  | .region j ops _ => bif Nat.beq i j then some ops else none
  | .seq a b => match regOps i a with
    | some x => some x
    | none => regOps i b
  | .cond _ a b => match regOps i a with
    | some x => some x
    | none => regOps i b
  | .block _ a => regOps i a
  | .loop a => regOps i a
  | .rangeFunc _ _ a b => match regOps i a with
    | some x => some x
    | none => regOps i b
  | .scope a => regOps i a
  | _ => none

/-- A region's entry: where it stands, how its state looks, what is known of it. -/
structure RE where
  f : Nat
  id : Nat
  ops : Array Oper
  pat : SP
  hs : List HT
  run : DenH hs → Option (DenH hs × List Nat)
def RE.go (e : RE) (f id : Nat) (ops : Array Oper) (ts : List PV) (h : List Blk) : Option (List PV × List Blk × List Nat) :=
  bif Nat.beq f e.f && (Nat.beq id e.id && codeEq (.region id ops true) (.region id e.ops true)) then
    match matchS e.pat { ts := ts, h := h, df := [], wl := [] } with
    | some l => match decH e.hs l with
      | some v => match e.run v with
        | some q => some ((fillH e.pat e.hs q.1).ts, (fillH e.pat e.hs q.1).h, q.2)
        | none => none
      | none => none
    | none => none
  else none
def reTab : List RE → Nat → Nat → Array Oper → List PV → List Blk → Option (List PV × List Blk × List Nat)
  | [], _, _, _, _, _ => none
  | e :: r, f, id, ops, ts, h => match e.go f id ops ts h with
    | some q => some q
    | none => reTab r f id ops ts h

section
variable {P : Program}
/-- An entry holds. -/
def RE.Ok (P : Program) (gl : Nat → Option ((t : Ty) × t.den)) (e : RE) : Prop := ∀ (id : Nat) (v : DenH e.hs) (q : DenH e.hs × List Nat), e.run v = some q →
  RegSem P (mkE (fun _ => none) gl (fun _ => none) [] [] []) id e.ops (fillH e.pat e.hs v).ts (fillH e.pat e.hs v).h ((fillH e.pat e.hs q.1).ts, (fillH e.pat e.hs q.1).h, q.2)

theorem RegSem.env {E E' : Env} (h : E'.glob = E.glob) {id : Nat} {ops : Array Oper} {ts : List PV} {hp : List Blk} {out : List PV × List Blk × List Nat} (hs : RegSem P E id ops ts hp out) : RegSem P E' id ops ts hp out := by
  intro w0 ok0 ro n Q c a hg hr h0 hh ht hK
  exact hs w0 ok0 ro n Q c a (fun g t x hx => hg g t x (by rw [h]; exact hx)) hr h0 hh ht hK

theorem reOk_of {gl : Nat → Option ((t : Ty) × t.den)} : ∀ {l : List RE}, (∀ e ∈ l, e.Ok P gl) → ∀ {E : Env}, E.glob = gl → ∀ fno id ops ts h out, reTab l fno id ops ts h = some out → RegSem P E id ops ts h out
  | [], _, E, _, fno, id, ops, ts, h, out, he => by cases he
  | e :: r, hl, E, hE, fno, id, ops, ts, h, out, he => by
    unfold reTab at he
    split at he
    · rename_i q hq
      injection he with he
      subst he
      unfold RE.go at hq
      cases hb : Nat.beq fno e.f && (Nat.beq id e.id && codeEq (.region id ops true) (.region id e.ops true)) with
      | false => rw [hb] at hq; cases hq
      | true =>
        rw [hb] at hq
        simp only [cond_true] at hq
        simp only [Bool.and_eq_true] at hb
        have hc := codeEq_ok _ _ hb.2.2
        injection hc with _ hc _
        subst hc
        split at hq
        · rename_i l hm
          split at hq
          · rename_i v hv
            split at hq
            · rename_i q' hr
              injection hq with hq
              subst hq
              have := fillH_ok e.pat e.hs { ts := ts, h := h, df := [], wl := [] } l v hm hv
              have h1 := hl e (by simp) id v q' hr
              rw [this] at h1
              exact h1.env (by rw [hE]; rfl)
            · cases hq
          · cases hq
        · cases hq
    · exact reOk_of (fun e' he' => hl e' (by simp [he'])) hE fno id ops ts h out he
theorem reOk_tab {gl : Nat → Option ((t : Ty) × t.den)} {l : List RE} (h : ∀ e ∈ l, e.Ok P gl) : ReOk P (mkE (fun _ => none) gl (fun _ => none) [] [] [] (reTab l)) :=
  fun fno id ops ts hp out he => reOk_of h rfl fno id ops ts hp out he

theorem map_replicate {α β : Type} {f : α → β} {o : β} : ∀ {l : List α}, l.map f = List.replicate l.length o → ∀ e ∈ l, f e = o
  | [], _, e, he => by cases he
  | x :: l, h, e, he => by
    rw [List.map_cons, List.length_cons, List.replicate_succ] at h
    injection h with h1 h2
    rcases List.mem_cons.1 he with he | he
    · rw [he, h1]
    · exact map_replicate h2 e he
end
end Go.Fy

set_option linter.unusedVariables false
namespace Go.Fy
open Go.RowKit

section
variable {P : Program} {tys : Nat → Option TI} {gl : Nat → Option ((t : Ty) × t.den)} {fns : Nat → Option Func} {drl : List (Nat × List Nat)} {kpl : List (Nat × List (Nat × List Nat))} {cps : List (Nat × CP)} {lps : List (Nat × Nat × LE)} {k : Nat} {re : Nat → Nat → Array Oper → List PV → List Blk → Option (List PV × List Blk × List Nat)}

/-- A call of a function with a text. -/
theorem calls_of_cp {f : Nat} {c : CP} (hc : CpOk P gl f c) {fn : Func} (hfn : P.funcs[f]? = some fn) {b : Code} (hb : fn.body = some b) (hname : (fn.name == "runtime.NumGoroutine") = false)
    {w : World} {ok : Nat → Prop} (hlt : ∀ b, ok b → b < w.heap.size) (hg : GOk (mkE (fun _ => none) gl (fun _ => none) [] [] []) w ok) {xs : DenL c.args} {vs : List Value} (hv : OutR.DVs w ok c.args xs vs) (hp : c.pre xs = true) :
    Calls P f vs.toArray w fun e w' => OutR w' (fun b => ok b ∨ (w.heap.size ≤ b ∧ b < w'.heap.size)) (.ret (c.spec xs) : Out c.res) e ∧ Below w.heap.size w w' := by
  have := hc w ok xs vs (.ret (c.spec xs)) hlt hg hv (by simp [CP.con, hp])
  rcases this with ⟨_, h⟩ | ⟨v, w', h, _⟩
  · exact h
  · have h1 : fn.name ≠ "runtime.NumGoroutine" := by simpa using hname
    rw [show (callFunc f vs.toArray).run P w = .ok (.enter f vs.toArray) w by simp [callFunc, hfn, h1, hb]] at h
    simp at h
end

section
open Go.ChangeShapes
variable {H : Type} {enc : TypeId × Value → H} {P : Program}
/-- What was there is as it was; what is new lies behind it. -/
theorem post_below {f : Func} {s : ChangeSpec} {apart fresh handsOn again : Bool} {W W' : World} {args : Array Value} {v : Value} {ds gs : List (DataW H)} {before pa pv : List MemPlace}
    (hW : DataW.Whole enc P f.params.toList s.vars apart W args.toList ds gs before)
    (hres : ∀ (b : Nat) (sp : Nat → Bool) (hd : Bool), DataW.TrodAll enc P W' b sp hd f.resultTypes.toList (v.resultList f.resultTypes.size) (s.fn H (ds ++ gs)).results [])
    (hargs : ∀ sp : Nat → Bool, (∀ p ∈ before, sp p.block = true) → DataW.TrodAll enc P W' 0 sp true f.params.toList args.toList (s.fn H (ds ++ gs)).args pa)
    (hvars : ∀ sp : Nat → Bool, (∀ p ∈ before, sp p.block = true) → DataW.TrodVars enc P W' sp s.vars (s.fn H (ds ++ gs)).vars pv)
    (hps : before = pa ++ pv) (hk : W.keptBut W' (· ∈ before)) (hfz : ∀ a : Addr, a.block < W.heap.size → W'.frozen? a = W.frozen? a)
    (hok : ∀ (j : Nat) (t : TypeId) (r : Value), f.resultTypes[j]? = some t → (v.resultList f.resultTypes.size)[j]? = some r → Value.okWide P W' .any 0 t r) :
    s.post enc P f apart fresh handsOn again W args v W' := by
  have hlt := hW.lt
  have hold : ∀ p ∈ before, (fun b => decide (b < W.heap.size)) p.block = true := fun p hp => by simpa using hW.lt p hp
  refine ⟨ds, gs, before, [], pa, pv, hW, hres _ _ _, hargs _ hold, hvars _ hold, World.keptBut_mono (fun p hp => ⟨hp, ?_⟩) hk, fun _ => ?_⟩
  · rw [hps, List.mem_append] at hp
    exact Or.inr hp
  · obtain ⟨_, _, _, _, _, hz, hn⟩ := hW
    refine ⟨hok, _, _, ([] ++ pa) ++ pv, ⟨[] ++ pa, pv, trodAll_append (hargs _ (fun _ _ => rfl)) (hres _ _ _), hvars _ (fun _ _ => rfl), rfl, ?_, ?_⟩, ?_⟩
    · intro b off hp
      have hp' : MemPlace.cell b off ∈ before := by rw [hps]; simpa using hp
      rw [hfz _ (hlt _ hp')]
      exact hz b off hp'
    · intro ha
      have := hn ha
      rw [hps] at this
      simpa using this
    · intro p hp _
      rw [hps]
      simpa using hp
end
end Go.Fy

