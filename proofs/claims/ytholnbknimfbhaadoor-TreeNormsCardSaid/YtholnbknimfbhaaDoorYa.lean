/-
  An evaluator for loaded Go code and its proof, the first part; no conditions.
-/
import Derived.RangeFuncLeaves
import Derived.RangeFuncRecord
import Derived.RangeFuncCalls
import Derived.Below
import Derived.Laws.AppendOwn
import Derived.Laws.OwnMore
import Derived.Laws.Entries
import Derived.Laws.CopyRow
import Derived.Laws.Cells
import Derived.Laws.CopyOwn
import Derived.WideLaws
import Derived.Lib.Strings
import Derived.Great.BuildSlice
import Derived.Deep.AppendSrc
import Derived.Laws.MakeOwn
namespace Go.Fy
open Go.RowKit

/-! ### Types of pure data -/
inductive Ty where
  | bool
  | int (k : IntKind)
  | str
  | sl (t : Ty)
  | arr (n : Nat) (t : Ty)
  | nil
  | cons (a b : Ty)
  deriving DecidableEq

@[reducible] def Ty.den : Ty → Type
  | .bool => Bool
  | .int _ => Int
  | .str => List UInt8
  | .sl t => List t.den
  | .arr _ t => List t.den
  | .nil => Unit
  | .cons a b => a.den × b.den

def Ty.sz : Ty → Nat
  | .arr n t => n * t.sz
  | .nil => 0
  | .cons a b => a.sz + b.sz
  | _ => 1

def Ty.agg : Ty → Bool
  | .arr _ _ => true
  | .nil => true
  | .cons _ _ => true
  | _ => false

/-- A list of things, their cells one behind the other. -/
def Chain {α : Type} (R : α → List Value → Prop) : List α → List Value → Prop
  | [], cs => cs = []
  | x :: xs, cs => ∃ a b, cs = a ++ b ∧ R x a ∧ Chain R xs b

/-- Cells lie in a block from a place on. -/
def At (w : World) (b off : Nat) (cs : List Value) : Prop := ∀ j v, cs[j]? = some v → w.cell? ⟨b, off + j, none⟩ = some v

/-- Cells read as a datum; all that is met lies in blocks that are ok. -/
def DC (w : World) (ok : Nat → Prop) : (t : Ty) → t.den → List Value → Prop
  | .bool, x, cs => cs = [.bool x]
  | .int k, x, cs => cs = [.int k x]
  | .str, x, cs => cs = [.string ⟨x.toArray⟩]
  | .sl t, xs, cs => ∃ a cap, cs = [.slice a xs.length cap] ∧ xs.length ≤ cap ∧ (xs ≠ [] → ∃ b off ds, a = some ⟨b, off, none⟩ ∧ ok b ∧ Chain (DC w ok t) xs ds ∧ At w b off ds)
  | .arr n t, xs, cs => xs.length = n ∧ Chain (DC w ok t) xs cs
  | .nil, _, cs => cs = []
  | .cons a b, x, cs => ∃ c d, cs = c ++ d ∧ DC w ok a x.1 c ∧ DC w ok b x.2 d

def mkV (agg : Bool) (cs : List Value) : Value := if agg then .agg cs.toArray else cs.headD undef

/-- A value reads as a datum. -/
def DV (w : World) (ok : Nat → Prop) (t : Ty) (x : t.den) (v : Value) : Prop := ∃ cs, DC w ok t x cs ∧ v = mkV t.agg cs

/-- Going on from one world to another: what is ok stays ok, and lies as it lay. -/
structure Keeps (w : World) (ok : Nat → Prop) (w' : World) (ok' : Nat → Prop) : Prop where
  okk : ∀ b, ok b → ok' b
  heap : ∀ b, ok b → w'.heap[b]? = w.heap[b]?

theorem Keeps.refl (w : World) (ok : Nat → Prop) : Keeps w ok w ok := ⟨fun _ h => h, fun _ _ => rfl⟩
theorem Keeps.trans {w w' w'' : World} {ok ok' ok'' : Nat → Prop} (h : Keeps w ok w' ok') (k : Keeps w' ok' w'' ok'') : Keeps w ok w'' ok'' :=
  ⟨fun b hb => k.okk b (h.okk b hb), fun b hb => (k.heap b (h.okk b hb)).trans (h.heap b hb)⟩

theorem Chain.mono {α : Type} {R R' : α → List Value → Prop} (h : ∀ x cs, R x cs → R' x cs) : ∀ (xs : List α) (cs : List Value), Chain R xs cs → Chain R' xs cs
  | [], _, hc => hc
  | x :: xs, _, ⟨a, b, e, hx, hb⟩ => ⟨a, b, e, h x a hx, Chain.mono h xs b hb⟩

theorem At.keeps {w w' : World} {ok ok' : Nat → Prop} (k : Keeps w ok w' ok') {b off : Nat} {cs : List Value} (hb : ok b) (h : At w b off cs) : At w' b off cs :=
  fun j v hv => (World.cell?_of_block (w := w) (k.heap b hb)).trans (h j v hv)

theorem DC.keeps {w w' : World} {ok ok' : Nat → Prop} (k : Keeps w ok w' ok') : ∀ (t : Ty) (x : t.den) (cs : List Value), DC w ok t x cs → DC w' ok' t x cs
  | .bool, _, _, h => h
  | .int _, _, _, h => h
  | .str, _, _, h => h
  | .sl t, xs, _, ⟨a, cap, e, hl, h⟩ => ⟨a, cap, e, hl, fun hne => by
      obtain ⟨b, off, ds, e', hb, hc, hat⟩ := h hne
      exact ⟨b, off, ds, e', k.okk b hb, Chain.mono (fun x cs => DC.keeps k t x cs) xs ds hc, hat.keeps k hb⟩⟩
  | .arr n t, xs, cs, ⟨hl, hc⟩ => ⟨hl, Chain.mono (fun x cs => DC.keeps k t x cs) xs cs hc⟩
  | .nil, _, _, h => h
  | .cons a b, x, _, ⟨c, d, e, hc, hd⟩ => ⟨c, d, e, DC.keeps k a x.1 c hc, DC.keeps k b x.2 d hd⟩

theorem DV.keeps {w w' : World} {ok ok' : Nat → Prop} (k : Keeps w ok w' ok') {t : Ty} {x : t.den} {v : Value} (h : DV w ok t x v) : DV w' ok' t x v := by
  obtain ⟨cs, h, e⟩ := h
  exact ⟨cs, DC.keeps k t x cs h, e⟩

theorem Chain.length {α : Type} {R : α → List Value → Prop} {s : Nat} (h : ∀ x cs, R x cs → cs.length = s) : ∀ (xs : List α) (cs : List Value), Chain R xs cs → cs.length = xs.length * s
  | [], _, hc => by rw [show _ = [] from hc]; simp
  | x :: xs, _, ⟨a, b, e, hx, hb⟩ => by rw [e, List.length_append, h x a hx, Chain.length h xs b hb, List.length_cons, Nat.succ_mul, Nat.add_comm]

theorem DC.length {w : World} {ok : Nat → Prop} : ∀ (t : Ty) (x : t.den) (cs : List Value), DC w ok t x cs → cs.length = t.sz
  | .bool, _, _, h => by rw [show _ = _ from h]; rfl
  | .int _, _, _, h => by rw [show _ = _ from h]; rfl
  | .str, _, _, h => by rw [show _ = _ from h]; rfl
  | .sl t, xs, _, ⟨a, cap, e, _⟩ => by rw [e]; rfl
  | .arr n t, xs, cs, ⟨hl, hc⟩ => by rw [Chain.length (fun x cs => DC.length t x cs) xs cs hc, hl]; rfl
  | .nil, _, _, h => by rw [show _ = _ from h]; rfl
  | .cons a b, x, _, ⟨c, d, e, hc, hd⟩ => by rw [e, List.length_append, DC.length a x.1 c hc, DC.length b x.2 d hd]; rfl

/-- A cell's value: no aggregate. -/
def One (v : Value) : Prop := v.oneCell' = true

theorem Chain.all {α : Type} {R : α → List Value → Prop} {p : Value → Prop} (h : ∀ x cs, R x cs → ∀ v ∈ cs, p v) : ∀ (xs : List α) (cs : List Value), Chain R xs cs → ∀ v ∈ cs, p v
  | [], _, hc => by rw [show _ = [] from hc]; simp
  | x :: xs, _, ⟨a, b, e, hx, hb⟩ => by
    intro v hv
    rw [e, List.mem_append] at hv
    rcases hv with hv | hv
    · exact h x a hx v hv
    · exact Chain.all h xs b hb v hv

theorem DC.one {w : World} {ok : Nat → Prop} : ∀ (t : Ty) (x : t.den) (cs : List Value), DC w ok t x cs → ∀ v ∈ cs, One v
  | .bool, _, _, h => by rw [show _ = _ from h]; simp [One, Value.oneCell']
  | .int _, _, _, h => by rw [show _ = _ from h]; simp [One, Value.oneCell']
  | .str, _, _, h => by rw [show _ = _ from h]; simp [One, Value.oneCell']
  | .sl t, xs, _, ⟨a, cap, e, _⟩ => by rw [e]; simp [One, Value.oneCell']
  | .arr n t, xs, cs, ⟨_, hc⟩ => Chain.all (fun x cs => DC.one t x cs) xs cs hc
  | .nil, _, _, h => by rw [show _ = _ from h]; simp
  | .cons a b, x, _, ⟨c, d, e, hc, hd⟩ => by
    intro v hv
    rw [e, List.mem_append] at hv
    rcases hv with hv | hv
    · exact DC.one a x.1 c hc v hv
    · exact DC.one b x.2 d hd v hv

/-- What is not an aggregate has one cell, which is its value. -/
theorem DC.leaf {w : World} {ok : Nat → Prop} {t : Ty} {x : t.den} {cs : List Value} (ht : t.agg = false) (h : DC w ok t x cs) : ∃ v, cs = [v] ∧ One v := by
  have hl := DC.length t x cs h
  have h1 := DC.one t x cs h
  have hs : t.sz = 1 := by cases t <;> simp_all [Ty.agg, Ty.sz]
  rw [hs] at hl
  match cs, hl with
  | [v], _ => exact ⟨v, rfl, h1 v (by simp)⟩

/-! ### Abstract values -/
inductive PV where
  | un
  | d (t : Ty) (x : t.den)
  | nsl
  | ag (us : List PV)
  | tu (vs : List PV)
  | pt (b i : Nat)
  | pe (b i ver j q : Nat)
  | ce (t : Ty) (x : t.den) (q : Nat)
  | np
  | ro (b ver off len : Nat)
  | ar (b i off len : Nat)
  | fn (f : Nat) (caps : List PV)
  | yl (l : Nat)
  | nf
  | ic (t : Nat) (v : PV)
  | ni
  | mp (b : Nat)
  | nm
  | it (b : Nat)

/-- A datum as units: a variable's parts, an array being one. -/
def units : (t : Ty) → t.den → List PV
  | .nil, _ => []
  | .cons a b, x => units a x.1 ++ units b x.2
  | .bool, x => [.d .bool x]
  | .int k, x => [.d (.int k) x]
  | .str, x => [.d .str x]
  | .sl t, x => [.d (.sl t) x]
  | .arr n t, x => [.d (.arr n t) x]

/-- A unit's shape: an array's length and elements; none: one cell. -/
def shp : PV → Option (Nat × Ty)
  | .d (.arr n t) _ => some (n, t)
  | _ => none
def ssz : Option (Nat × Ty) → Nat
  | some (n, t) => n * t.sz
  | none => 1
def tsh : Ty → List (Option (Nat × Ty))
  | .nil => []
  | .cons a b => tsh a ++ tsh b
  | .arr n t => [some (n, t)]
  | _ => [none]
/-- How many cells lie ahead of unit i. -/
def soff (l : List (Option (Nat × Ty))) (i : Nat) : Nat := ((l.take i).map ssz).sum
/-- What may be a unit. -/
def wfU : PV → Bool
  | .d .nil _ => false
  | .d (.cons _ _) _ => false
  | .ag _ => false
  | .tu _ => false
  | _ => true

structure LoopA where
  state : LoopState
  pending : Option Code
  fno : Nat
  tmps : List PV
  params : List Tmp
  assign : Code
  body : Code

inductive Blk where
  | dead
  | cells (us : List PV)
  | row (e : Nat) (t : Ty) (xs : List t.den) (ver : Nat)
  | loop (r : LoopA)
  | defs
  | map (es : List (Int × Int)) (clock : Nat)
  | iter (s : List UInt8) (pos : Nat)

end Go.Fy

namespace Go.Fy
open Go.RowKit

/-- A place of the run: the world, the abstract heap, where its blocks lie, the rows' capacities; what was there when it began. -/
structure Cx where
  w : World
  bs : List Nat
  caps : List Nat
  H : List Blk
  lo : Nat
  ok0 : Nat → Prop

def live (H : List Blk) (i : Nat) : Prop := ∃ x, H[i]? = some x ∧ x ≠ .dead

/-- Blocks that never change: what was given, and what was made and is nobody's. -/
def Cx.ok (c : Cx) (b : Nat) : Prop := c.ok0 b ∨ (c.lo ≤ b ∧ b < c.w.heap.size ∧ ∀ i, live c.H i → c.bs.getD i 0 ≠ b)

def isPtr (v : Value) : Prop := ∃ a, v = .pointer (some a)
def isSl (v : Value) : Prop := ∃ a l k, v = .slice (some a) l k
def isYl (v : Value) : Prop := ∃ l, v = .func (.yield l) #[] #[]
def isMp (v : Value) : Prop := ∃ r, v = .map (some r)

mutual
def VR (c : Cx) : PV → Value → Prop
  | .un, _ => True
  | .d t x, v => DV c.w c.ok t x v
  | .nsl, v => v = .slice none 0 0
  | .ag us, v => ∃ cs, v = .agg cs.toArray ∧ URs c us cs
  | .tu vs, v => ∃ l, v = .tuple l.toArray ∧ VRs c vs l
  | .pt b i, v => isPtr v ∧ b < c.H.length ∧ ∀ us, c.H[b]? = some (.cells us) → i ≤ us.length ∧ v = .pointer (some ⟨c.bs.getD b 0, soff (us.map shp) i, none⟩)
  | .pe b i ver j q, v => isPtr v ∧ b < c.H.length ∧
      (∀ us, c.H[b]? = some (.cells us) → ∃ n t, (us.map shp)[i]? = some (some (n, t)) ∧ j < n ∧ v = .pointer (some ⟨c.bs.getD b 0, soff (us.map shp) i + j * t.sz + soff (tsh t) q, none⟩)) ∧
      (∀ e t xs u, c.H[b]? = some (.row e t xs u) → ver ≤ u ∧ (ver = u → j < xs.length ∧ v = .pointer (some ⟨c.bs.getD b 0, j * t.sz + soff (tsh t) q, none⟩)))
  | .ce t x q, v => ∃ b off cs, v = .pointer (some ⟨b, off + soff (tsh t) q, none⟩) ∧ c.ok b ∧ DC c.w c.ok t x cs ∧ At c.w b off cs
  | .np, v => v = .pointer none
  | .ro b ver off len, v => isSl v ∧ b < c.H.length ∧ ∀ e t xs u, c.H[b]? = some (.row e t xs u) → ver ≤ u ∧
      (ver = u → off + len ≤ xs.length ∧ xs.length ≤ c.caps.getD b 0 ∧ v = .slice (some ⟨c.bs.getD b 0, off * t.sz, none⟩) len (c.caps.getD b 0 - off))
  | .ar b i off len, v => isSl v ∧ b < c.H.length ∧ ∀ us, c.H[b]? = some (.cells us) → ∃ n t cap, (us.map shp)[i]? = some (some (n, t)) ∧ off + len ≤ n ∧ len ≤ cap ∧ v = .slice (some ⟨c.bs.getD b 0, soff (us.map shp) i + off * t.sz, none⟩) len cap
  | .fn f caps, v => ∃ l, v = .func (.func f) #[] l.toArray ∧ VRs c caps l
  | .yl l, v => isYl v ∧ l < c.H.length ∧ ∀ r, c.H[l]? = some (.loop r) → v = .func (.yield (c.bs.getD l 0)) #[] #[]
  | .nf, v => v = .nilFunc
  | .ic t p, v => ∃ u, v = .iface t u ∧ VR c p u
  | .ni, v => v = .nilIface
  | .mp b, v => isMp v ∧ b < c.H.length ∧ ∀ es k, c.H[b]? = some (.map es k) → v = .map (some (c.bs.getD b 0))
  | .nm, v => v = .map none
  | .it b, v => isPtr v ∧ b < c.H.length ∧ ∀ s p, c.H[b]? = some (.iter s p) → v = .pointer (some ⟨c.bs.getD b 0, 0, none⟩)
def VRs (c : Cx) : List PV → List Value → Prop
  | [], l => l = []
  | p :: ps, l => ∃ v r, l = v :: r ∧ VR c p v ∧ VRs c ps r
/-- Units and their cells. -/
def URs (c : Cx) : List PV → List Value → Prop
  | [], cs => cs = []
  | p :: ps, cs => ∃ a b, cs = a ++ b ∧ URs c ps b ∧ (match p with
      | .d t x => DC c.w c.ok t x a
      | _ => ∃ v, a = [v] ∧ One v ∧ VR c p v)
end

/-- One unit and its cells. -/
def UR (c : Cx) (p : PV) (a : List Value) : Prop := match p with
  | .d t x => DC c.w c.ok t x a
  | _ => ∃ v, a = [v] ∧ One v ∧ VR c p v

theorem URs_cons {c : Cx} {p : PV} {ps : List PV} {cs : List Value} : URs c (p :: ps) cs ↔ ∃ a b, cs = a ++ b ∧ UR c p a ∧ URs c ps b := by
  constructor
  · intro h
    rw [URs] at h
    obtain ⟨a, b, e, h1, h2⟩ := h
    exact ⟨a, b, e, h2, h1⟩
  · rintro ⟨a, b, e, h2, h1⟩
    rw [URs]
    exact ⟨a, b, e, h1, h2⟩

def BR (c : Cx) (i : Nat) : Blk → Prop
  | .dead => True
  | .cells us => ∃ cs e, c.w.heap[c.bs.getD i 0]? = some (.cells cs.toArray e (0, 0)) ∧ URs c us cs ∧ ∀ u ∈ us, wfU u = true
  | .row e t xs _ => ∃ cs rest, c.w.heap[c.bs.getD i 0]? = some (.cells (cs ++ rest).toArray e (0, 0)) ∧ Chain (DC c.w c.ok t) xs cs ∧ 0 < t.sz ∧
      (cs ++ rest).length = c.caps.getD i 0 * t.sz ∧ xs.length ≤ c.caps.getD i 0 ∧ c.caps.getD i 0 ≤ maxLen
  | .loop r => ∃ lp : Loop, c.w.heap[c.bs.getD i 0]? = some (.loop lp) ∧ lp.state = r.state ∧ lp.pending = r.pending ∧ VRs c r.tmps lp.tmps.toList ∧
      lp.params = r.params.toArray ∧ lp.assign = r.assign ∧ lp.body = r.body
  | .defs => c.w.heap[c.bs.getD i 0]? = some (.deferred (some []))
  | .map es k => ∃ ms : Array MapEntry, c.w.heap[c.bs.getD i 0]? = some (.map ms k) ∧ ms.toList.map (fun m => (m.key, m.val)) = es.map fun p => (.int .i64 p.1, .int .i64 p.2)
  | .iter s p => c.w.heap[c.bs.getD i 0]? = some (.stringIter ⟨s.toArray⟩ p)

structure Rel (w0 : World) (c : Cx) : Prop where
  lo : c.lo = w0.heap.size
  okl : ∀ b, c.ok0 b → b < c.lo
  len : c.bs.length = c.H.length
  lenc : c.caps.length = c.H.length
  below : Below c.lo w0 c.w
  inj : ∀ i j, live c.H i → live c.H j → c.bs.getD i 0 = c.bs.getD j 0 → i = j
  rng : ∀ i, live c.H i → c.lo ≤ c.bs.getD i 0 ∧ c.bs.getD i 0 < c.w.heap.size
  blk : ∀ i x, c.H[i]? = some x → BR c i x

/-- How one block may go on. -/
def Goes (c c' : Cx) (i : Nat) : Blk → Blk → Prop
  | _, .dead => True
  | .cells us, .cells us' => us'.map shp = us.map shp ∧ c'.bs.getD i 0 = c.bs.getD i 0
  | .row _ t xs u, .row _ t' xs' u' => u ≤ u' ∧ (u = u' → t = t' ∧ xs'.length = xs.length ∧ c'.bs.getD i 0 = c.bs.getD i 0 ∧ c'.caps.getD i 0 = c.caps.getD i 0)
  | .loop _, .loop _ => c'.bs.getD i 0 = c.bs.getD i 0
  | .defs, .defs => c'.bs.getD i 0 = c.bs.getD i 0
  | .map _ _, .map _ _ => c'.bs.getD i 0 = c.bs.getD i 0
  | .iter _ _, .iter _ _ => c'.bs.getD i 0 = c.bs.getD i 0
  | _, _ => False

structure Ext (c c' : Cx) : Prop where
  keeps : Keeps c.w c.ok c'.w c'.ok
  len : c.H.length ≤ c'.H.length
  goes : ∀ i x x', c.H[i]? = some x → c'.H[i]? = some x' → Goes c c' i x x'

theorem Goes.refl (c : Cx) (i : Nat) (x : Blk) : Goes c c i x x := by
  cases x <;> simp [Goes]

theorem Ext.refl (c : Cx) : Ext c c := ⟨Keeps.refl _ _, Nat.le_refl _, fun i x x' h h' => by rw [h] at h'; injection h' with h'; subst h'; exact Goes.refl c i x⟩

theorem Goes.trans {c c' c'' : Cx} {i : Nat} {x y z : Blk} (h : Goes c c' i x y) (k : Goes c' c'' i y z) : Goes c c'' i x z := by
  cases z with
  | dead => cases x <;> exact trivial
  | cells us =>
    cases y with
    | cells us' =>
      cases x with
      | cells us'' => simp only [Goes] at *; exact ⟨k.1.trans h.1, k.2.trans h.2⟩
      | _ => exact absurd h (by simp [Goes])
    | _ => exact absurd k (by simp [Goes])
  | row e t xs u =>
    cases y with
    | row e' t' xs' u' =>
      cases x with
      | row e'' t'' xs'' u'' =>
        simp only [Goes] at *
        refine ⟨Nat.le_trans h.1 k.1, fun e => ?_⟩
        have h1 : u'' = u' := by omega
        have h2 : u' = u := by omega
        obtain ⟨a1, a2, a3, a4⟩ := h.2 h1
        obtain ⟨b1, b2, b3, b4⟩ := k.2 h2
        exact ⟨a1.trans b1, b2.trans a2, b3.trans a3, b4.trans a4⟩
      | _ => exact absurd h (by simp [Goes])
    | _ => exact absurd k (by simp [Goes])
  | loop r =>
    cases y with
    | loop r' =>
      cases x with
      | loop r'' => simp only [Goes] at *; exact k.trans h
      | _ => exact absurd h (by simp [Goes])
    | _ => exact absurd k (by simp [Goes])
  | defs =>
    cases y with
    | defs =>
      cases x with
      | defs => simp only [Goes] at *; exact k.trans h
      | _ => exact absurd h (by simp [Goes])
    | _ => exact absurd k (by simp [Goes])
  | map es q =>
    cases y with
    | map es' q' =>
      cases x with
      | map es'' q'' => simp only [Goes] at *; exact k.trans h
      | _ => exact absurd h (by simp [Goes])
    | _ => exact absurd k (by simp [Goes])
  | iter es q =>
    cases y with
    | iter es' q' =>
      cases x with
      | iter es'' q'' => simp only [Goes] at *; exact k.trans h
      | _ => exact absurd h (by simp [Goes])
    | _ => exact absurd k (by simp [Goes])

theorem Ext.trans {c c' c'' : Cx} (h : Ext c c') (k : Ext c' c'') : Ext c c'' := by
  refine ⟨h.keeps.trans k.keeps, Nat.le_trans h.len k.len, fun i x x'' hx hx'' => ?_⟩
  have hi : i < c'.H.length := Nat.lt_of_lt_of_le (List.getElem?_eq_some_iff.1 hx).1 h.len
  exact (h.goes i x _ hx (List.getElem?_eq_getElem hi)).trans (k.goes i _ x'' (List.getElem?_eq_getElem hi) hx'')

/-- What a block was, of what it is. -/
theorem Ext.back {c c' : Cx} (h : Ext c c') {i : Nat} (hi : i < c.H.length) {x' : Blk} (hx : c'.H[i]? = some x') : ∃ x, c.H[i]? = some x ∧ Goes c c' i x x' :=
  ⟨_, List.getElem?_eq_getElem hi, h.goes i _ _ (List.getElem?_eq_getElem hi) hx⟩

theorem Goes.cells {c c' : Cx} {i : Nat} {x : Blk} {us' : List PV} (h : Goes c c' i x (.cells us')) : ∃ us, x = .cells us ∧ us'.map shp = us.map shp ∧ c'.bs.getD i 0 = c.bs.getD i 0 := by
  cases x with
  | cells us => exact ⟨us, rfl, h⟩
  | _ => exact absurd h (by simp [Goes])
theorem Goes.row {c c' : Cx} {i : Nat} {x : Blk} {e' : Nat} {t' : Ty} {xs' : List t'.den} {u' : Nat} (h : Goes c c' i x (.row e' t' xs' u')) :
    ∃ e t xs u, x = .row e t xs u ∧ u ≤ u' ∧ (u = u' → t = t' ∧ xs'.length = xs.length ∧ c'.bs.getD i 0 = c.bs.getD i 0 ∧ c'.caps.getD i 0 = c.caps.getD i 0) := by
  cases x with
  | row e t xs u => exact ⟨e, t, xs, u, rfl, h⟩
  | _ => exact absurd h (by simp [Goes])
theorem Goes.loop {c c' : Cx} {i : Nat} {x : Blk} {r' : LoopA} (h : Goes c c' i x (.loop r')) : ∃ r, x = .loop r ∧ c'.bs.getD i 0 = c.bs.getD i 0 := by
  cases x with
  | loop r => exact ⟨r, rfl, h⟩
  | _ => exact absurd h (by simp [Goes])
theorem Goes.defs {c c' : Cx} {i : Nat} {x : Blk} (h : Goes c c' i x .defs) : x = .defs ∧ c'.bs.getD i 0 = c.bs.getD i 0 := by
  cases x with
  | defs => exact ⟨rfl, h⟩
  | _ => exact absurd h (by simp [Goes])
theorem Goes.map {c c' : Cx} {i : Nat} {x : Blk} {es' : List (Int × Int)} {k' : Nat} (h : Goes c c' i x (.map es' k')) : ∃ es k, x = .map es k ∧ c'.bs.getD i 0 = c.bs.getD i 0 := by
  cases x with
  | map es k => exact ⟨es, k, rfl, h⟩
  | _ => exact absurd h (by simp [Goes])

theorem Goes.iter {c c' : Cx} {i : Nat} {x : Blk} {s' : List UInt8} {p' : Nat} (h : Goes c c' i x (.iter s' p')) : ∃ s p, x = .iter s p ∧ c'.bs.getD i 0 = c.bs.getD i 0 := by
  cases x with
  | iter s p => exact ⟨s, p, rfl, h⟩
  | _ => exact absurd h (by simp [Goes])

mutual
theorem VR.ext {c c' : Cx} (h : Ext c c') : ∀ (p : PV) (v : Value), VR c p v → VR c' p v
  | .un, _, _ => trivial
  | .d t x, v, hv => by rw [VR] at hv ⊢; exact DV.keeps h.keeps hv
  | .nsl, v, hv => by rw [VR] at hv ⊢; exact hv
  | .ag us, v, hv => by
    rw [VR] at hv ⊢
    obtain ⟨cs, e, hu⟩ := hv
    exact ⟨cs, e, URs.ext h us cs hu⟩
  | .tu vs, v, hv => by
    rw [VR] at hv ⊢
    obtain ⟨l, e, hu⟩ := hv
    exact ⟨l, e, VRs.ext h vs l hu⟩
  | .pt b i, v, hv => by
    rw [VR] at hv ⊢
    refine ⟨hv.1, Nat.lt_of_lt_of_le hv.2.1 h.len, fun us' hb => ?_⟩
    obtain ⟨x, hx, hg⟩ := h.back hv.2.1 hb
    obtain ⟨us, rfl, e1, e2⟩ := hg.cells
    obtain ⟨h1, h2⟩ := hv.2.2 us hx
    have hl : us'.length = us.length := by have := congrArg List.length e1; simpa using this
    exact ⟨by omega, by rw [e1, e2]; exact h2⟩
  | .pe b i ver j q, v, hv => by
    rw [VR] at hv ⊢
    refine ⟨hv.1, Nat.lt_of_lt_of_le hv.2.1 h.len, fun us' hb => ?_, fun e' t' xs' u' hb => ?_⟩
    · obtain ⟨x, hx, hg⟩ := h.back hv.2.1 hb
      obtain ⟨us, rfl, e1, e2⟩ := hg.cells
      rw [e1, e2]
      exact hv.2.2.1 us hx
    · obtain ⟨x, hx, hg⟩ := h.back hv.2.1 hb
      obtain ⟨e, t, xs, u, rfl, hle, hg⟩ := hg.row
      obtain ⟨h1, h2⟩ := hv.2.2.2 e t xs u hx
      refine ⟨Nat.le_trans h1 hle, fun he => ?_⟩
      have hu : u = u' := by omega
      obtain ⟨rfl, g2, g3, _⟩ := hg hu
      obtain ⟨k1, k2⟩ := h2 (by omega)
      exact ⟨by omega, by rw [g3]; exact k2⟩
  | .ce t x q, v, hv => by
    rw [VR] at hv ⊢
    obtain ⟨b, off, cs, e, hb, hd, ha⟩ := hv
    exact ⟨b, off, cs, e, h.keeps.okk b hb, DC.keeps h.keeps t x cs hd, ha.keeps h.keeps hb⟩
  | .np, v, hv => by rw [VR] at hv ⊢; exact hv
  | .ro b ver off len, v, hv => by
    rw [VR] at hv ⊢
    refine ⟨hv.1, Nat.lt_of_lt_of_le hv.2.1 h.len, fun e' t' xs' u' hb => ?_⟩
    obtain ⟨x, hx, hg⟩ := h.back hv.2.1 hb
    obtain ⟨e, t, xs, u, rfl, hle, hg⟩ := hg.row
    obtain ⟨h1, h2⟩ := hv.2.2 e t xs u hx
    refine ⟨Nat.le_trans h1 hle, fun he => ?_⟩
    have hu : u = u' := by omega
    obtain ⟨rfl, g2, g3, g4⟩ := hg hu
    obtain ⟨k1, k2, k3⟩ := h2 (by omega)
    exact ⟨by omega, by omega, by rw [g3, g4]; exact k3⟩
  | .ar b i off len, v, hv => by
    rw [VR] at hv ⊢
    refine ⟨hv.1, Nat.lt_of_lt_of_le hv.2.1 h.len, fun us' hb => ?_⟩
    obtain ⟨x, hx, hg⟩ := h.back hv.2.1 hb
    obtain ⟨us, rfl, e1, e2⟩ := hg.cells
    rw [e1, e2]
    exact hv.2.2 us hx
  | .fn f caps, v, hv => by
    rw [VR] at hv ⊢
    obtain ⟨l, e, hu⟩ := hv
    exact ⟨l, e, VRs.ext h caps l hu⟩
  | .yl l, v, hv => by
    rw [VR] at hv ⊢
    refine ⟨hv.1, Nat.lt_of_lt_of_le hv.2.1 h.len, fun r' hb => ?_⟩
    obtain ⟨x, hx, hg⟩ := h.back hv.2.1 hb
    obtain ⟨r, rfl, e⟩ := hg.loop
    rw [e]
    exact hv.2.2 r hx
  | .nf, v, hv => by rw [VR] at hv ⊢; exact hv
  | .ic t p, v, hv => by
    rw [VR] at hv ⊢
    obtain ⟨u, e, hu⟩ := hv
    exact ⟨u, e, VR.ext h p u hu⟩
  | .ni, v, hv => by rw [VR] at hv ⊢; exact hv
  | .mp b, v, hv => by
    rw [VR] at hv ⊢
    refine ⟨hv.1, Nat.lt_of_lt_of_le hv.2.1 h.len, fun es' k' hb => ?_⟩
    obtain ⟨x, hx, hg⟩ := h.back hv.2.1 hb
    obtain ⟨es, k, rfl, e⟩ := hg.map
    rw [e]
    exact hv.2.2 es k hx
  | .nm, v, hv => by rw [VR] at hv ⊢; exact hv
  | .it b, v, hv => by
    rw [VR] at hv ⊢
    refine ⟨hv.1, Nat.lt_of_lt_of_le hv.2.1 h.len, fun s' p' hb => ?_⟩
    obtain ⟨x, hx, hg⟩ := h.back hv.2.1 hb
    obtain ⟨s, p, rfl, e⟩ := hg.iter
    rw [e]
    exact hv.2.2 s p hx
theorem VRs.ext {c c' : Cx} (h : Ext c c') : ∀ (ps : List PV) (l : List Value), VRs c ps l → VRs c' ps l
  | [], l, hl => by rw [VRs] at hl ⊢; exact hl
  | p :: ps, l, hl => by
    rw [VRs] at hl ⊢
    obtain ⟨v, r, e, h1, h2⟩ := hl
    exact ⟨v, r, e, VR.ext h p v h1, VRs.ext h ps r h2⟩
theorem URs.ext {c c' : Cx} (h : Ext c c') : ∀ (ps : List PV) (cs : List Value), URs c ps cs → URs c' ps cs
  | [], l, hl => by rw [URs] at hl ⊢; exact hl
  | p :: ps, l, hl => by
    have ih := VR.ext h p
    rw [URs] at hl ⊢
    obtain ⟨a, b, e, h1, h2⟩ := hl
    refine ⟨a, b, e, URs.ext h ps b h1, ?_⟩
    cases p with
    | d t x => exact DC.keeps h.keeps t x a h2
    | _ => obtain ⟨v, e', ho, hv⟩ := h2; exact ⟨v, e', ho, ih v hv⟩
end

theorem UR.ext {c c' : Cx} (h : Ext c c') {p : PV} {a : List Value} (hu : UR c p a) : UR c' p a := by
  cases p with
  | d t x => exact DC.keeps h.keeps t x a hu
  | _ => obtain ⟨v, e', ho, hv⟩ := hu; exact ⟨v, e', ho, VR.ext h _ v hv⟩

end Go.Fy

namespace Go.Fy
open Go.RowKit

/-! ### Tables -/
inductive Tk where
  | bool | int (k : IntKind) | str | ptr (e : Nat) | sl (e : Nat) | arr (n e : Nat)
  | st (fs : List (Nat × Nat × Nat))      -- a field: units ahead, cells ahead, type
  | fn | ifc | map (k e : Nat) | tup | other

structure TI where
  kind : Tk
  agg : Bool
  size : Nat
  bytes : Nat
  shs : List (Option (Nat × Ty))
  zero : List PV
  ty : Option Ty
  cmp : Bool          -- are values compared by '=='?

@[reducible] def DenL : List Ty → Type
  | [] => Unit
  | t :: ts => t.den × DenL ts

inductive Out (res : List Ty) where
  | ret (x : DenL res)
  | pan (t : Nat) (τ : Ty) (x : τ.den)

/-- What a function comes to, of data, told by data. -/
structure Con where
  args : List Ty
  res : List Ty
  fn : DenL args → Option (Out res)

structure Env where
  tt : Nat → Option TI
  glob : Nat → Option ((t : Ty) × t.den)
  fn : Nat → Option Func
  con : Nat → Option Con
  dr : Nat → Nat → Bool          -- of a function's regions that draw an order: which may be read as text
  ok : Array Oper → Bool         -- which operations may be read so
  kp : Nat → Nat → Option (List Nat)   -- of a function's loops, by their first regions: which temporaries are kept, none: all
  re : Nat → Nat → Array Oper → List PV → List Blk → Option (List PV × List Blk × List Nat) := fun _ _ _ _ _ => none   -- of a function's regions that draw an order: what they come to, where that is known

inductive Ex where
  | normal
  | exit (id : Nat)
  | goto (l : Nat)
  | ret
  | panic (v : PV)

structure St where
  ts : List PV
  h : List Blk
  df : List Nat
  wl : List Nat

/-! ### Data -/
def dflt : (t : Ty) → t.den
  | .bool => false
  | .int _ => (0 : Int)
  | .str => []
  | .sl _ => []
  | .arr n t => List.replicate n (dflt t)
  | .nil => ()
  | .cons a b => (dflt a, dflt b)

def cast? (t' t : Ty) (x : t'.den) : Option t.den := if h : t' = t then some (h ▸ x) else none
def nilOf : (t : Ty) → Option t.den
  | .sl _ => some []
  | _ => none
/-- A datum out of one unit. -/
def pk1 (t : Ty) : PV → Option t.den
  | .d t' x => cast? t' t x
  | .nsl => nilOf t
  | _ => none
def packL (t : Ty) : List PV → Option (t.den × List PV)
  | u :: r => match pk1 t u with
    | some x => some (x, r)
    | none => none
  | [] => none
/-- A datum out of units. -/
def pack : (t : Ty) → List PV → Option (t.den × List PV)
  | .nil, r => some ((), r)
  | .cons a b, r => match pack a r with
    | some (x, r') => match pack b r' with
      | some (y, r'') => some ((x, y), r'')
      | none => none
    | none => none
  | .bool, r => packL .bool r
  | .int k, r => packL (.int k) r
  | .str, r => packL .str r
  | .sl t, r => packL (.sl t) r
  | .arr n t, r => packL (.arr n t) r

/-- The value that units make. -/
def valOf (ti : TI) (us : List PV) : Option PV :=
  if us.map shp = ti.shs then
    bif ti.agg then
      match ti.ty with
      | some τ => match pack τ us with
        | some (x, []) => some (.d τ x)
        | _ => some (.ag us)
      | none => some (.ag us)
    else us.head?
  else none

/-- The units of a value. -/
def usOf (agg : Bool) (v : PV) : List PV := match v with
  | .d t x => bif agg then units t x else [v]
  | .ag us => us
  | v => [v]
def unitsOf (ti : TI) (v : PV) : Option (List PV) :=
  if (usOf ti.agg v).map shp = ti.shs ∧ (usOf ti.agg v).all wfU = true then some (usOf ti.agg v) else none

def known : PV → Bool
  | .un => false
  | _ => true

def splice {α : Type} (l : List α) (i : Nat) (m : List α) : List α := l.take i ++ m ++ l.drop (i + m.length)

/-! ### Operations -/
section
variable {ρ : Type} (E : Env)

def kindOf (t : Nat) : Tk := match E.tt t with
  | some ti => ti.kind
  | none => .other

def constPV : Value → PV
  | .bool b => .d .bool b
  | .int k n => .d (.int k) n
  | .string s => .d .str s.data.toList
  | .pointer none => .np
  | .slice none 0 0 => .nsl
  | .nilFunc => .nf
  | .nilIface => .ni
  | .map none => .nm
  | _ => .un

def opd (ts : List PV) : Operand → PV
  | .tmp t => ts.getD t .un
  | .const v => constPV v
  | .global g => match E.glob g with
    | some ⟨t, x⟩ => .ce t x 0
    | none => .un
  | .func f => .fn f []

def pvInt : PV → Option Int
  | .d (.int _) x => some x
  | _ => none

def strLess : List UInt8 → List UInt8 → Bool
  | _, [] => false
  | [], _ :: _ => true
  | a :: x, b :: y => decide (a < b) || (a == b && strLess x y)

/-- Are two data equal, as '==' has it? (slices: none) -/
def deq : (t : Ty) → t.den → t.den → Bool
  | .bool, x, y => x == y
  | .int _, x, y => x == y
  | .str, x, y => x == y
  | .sl _, _, _ => false
  | .arr n t, x, y => (List.range n).all fun i => deq t (x.getD i (dflt t)) (y.getD i (dflt t))
  | .nil, _, _ => true
  | .cons a b, x, y => deq a x.1 y.1 && deq b x.2 y.2
def noSl : Ty → Bool
  | .sl _ => false
  | .arr _ t => noSl t
  | .cons a b => noSl a && noSl b
  | _ => true

def intOp (op : BinOp) (k : IntKind) (a b : Int) (K : PV → Option ρ) : Option ρ :=
  match op with
  | .add => K (.d (.int k) (k.wrap (a + b)))
  | .sub => K (.d (.int k) (k.wrap (a - b)))
  | .mul => K (.d (.int k) (k.wrap (a * b)))
  | .quo => if b = 0 then none else K (.d (.int k) (k.wrap (a.tdiv b)))
  | .rem => if b = 0 then none else K (.d (.int k) (a.tmod b))
  | .and => K (.d (.int k) (bits .and k a b))
  | .or => K (.d (.int k) (bits .or k a b))
  | .xor => K (.d (.int k) (bits .xor k a b))
  | .andNot => K (.d (.int k) (bits .andNot k a b))
  | .shl => if b < 0 then none else K (.d (.int k) (k.wrap (a * 2 ^ (min b.toNat k.bits))))
  | .shr => if b < 0 then none else K (.d (.int k) (a.fdiv (2 ^ (min b.toNat k.bits))))
  | .eql => K (.d .bool (a == b))
  | .neq => K (.d .bool (a != b))
  | .lss => K (.d .bool (decide (a < b)))
  | .leq => K (.d .bool (decide (a ≤ b)))
  | .gtr => K (.d .bool (decide (a > b)))
  | .geq => K (.d .bool (decide (a ≥ b)))

def strOp (op : BinOp) (a b : List UInt8) (K : PV → Option ρ) : Option ρ :=
  match op with
  | .add => if ((a.length + b.length : Nat) : Int) ≤ 9223372036854775807 then K (.d .str (a ++ b)) else none
  | .eql => K (.d .bool (a == b))
  | .neq => K (.d .bool (!(a == b)))
  | .lss => K (.d .bool (strLess a b))
  | .leq => K (.d .bool (strLess a b || a == b))
  | .gtr => K (.d .bool (!(strLess a b || a == b)))
  | .geq => K (.d .bool (!strLess a b))
  | _ => none

/-- '==' of what may be nil. -/
def nilP : PV → Option Bool
  | .np => some true
  | .pt _ _ => some false
  | .pe .. => some false
  | .ce .. => some false
  | _ => none
def nilI : PV → Option Bool
  | .ni => some true
  | .ic _ _ => some false
  | _ => none
def nilF : PV → Option Bool
  | .nf => some true
  | .fn _ _ => some false
  | _ => none
def nilM : PV → Option Bool
  | .nm => some true
  | .mp _ => some false
  | _ => none
def nilS : PV → Option Bool
  | .nsl => some true
  | .ro .. => some false
  | .ar .. => some false
  | .d (.sl _) xs => if xs.isEmpty = true then none else some false
  | _ => none
def nil2 (f : PV → Option Bool) (x y : PV) : Option Bool := match f x, f y with
  | some true, some b => some b
  | some b, some true => some b
  | _, _ => none

/-- '==' of interface values of one integer type. -/
def icEq : PV → PV → Option Bool
  | .ic t (.d (.int k) a), .ic t' (.d (.int k') b) => if t = t' then (if k = k' then some (a == b) else none) else some false
  | _, _ => none

def nilEqT (ti : Option TI) (k : Bool) (x y : PV) : Option Bool :=
  match ti with
  | some ti => match ti.kind with
    | .ptr _ => nil2 nilP x y
    | .ifc => bif k then nil2 nilI x y else none
    | .fn => nil2 nilF x y
    | .map _ _ => nil2 nilM x y
    | .sl _ => nil2 nilS x y
    | _ => none
  | none => none

def isSh : BinOp → Bool
  | .shl => true
  | .shr => true
  | _ => false

def eqR (op : BinOp) (b : Bool) (K : PV → Option ρ) : Option ρ := match op with
  | .eql => K (.d .bool b)
  | .neq => K (.d .bool (!b))
  | _ => none

def binOpA (op : BinOp) (ty : Nat) (k : Bool) (x y : PV) (K : PV → Option ρ) : Option ρ :=
  match x, y with
  | .d (.int k) a, .d (.int k') b => bif isSh op then intOp op k a b K else (if k = k' then intOp op k a b K else none)
  | .d .str a, .d .str b => strOp op a b K
  | .d .bool a, .d .bool b => match kindOf E ty with
    | .bool => match op with
      | .eql => K (.d .bool (a == b))
      | .neq => K (.d .bool (!(a == b)))
      | _ => none
    | _ => none
  | .d t a, .d t' b => match cast? t' t b, E.tt ty with
    | some b, some ti => if (ti.ty = some t ∧ noSl t = true) ∧ ti.cmp = true then (match op with
      | .eql => K (.d .bool (deq t a b))
      | .neq => K (.d .bool (!(deq t a b)))
      | _ => none) else none
    | _, _ => none
  | x, y => match nilEqT (E.tt ty) k x y with
    | some b => eqR op b K
    | none => none

def unOpA (op : UnOp) (x : PV) (K : PV → Option ρ) : Option ρ :=
  match op, x with
  | .neg, .d (.int k) n => intOp .sub k 0 n K
  | .xor, .d (.int k) n => intOp .xor k (if k.signed then -1 else k.max) n K
  | .not, .d .bool b => K (.d .bool (!b))
  | _, _ => none

def pickA (c a b : PV) (K : PV → Option ρ) : Option ρ :=
  match c with
  | .d .bool t => bif t then K a else K b
  | _ => none

/-- A load. -/
def loadA (h : List Blk) (ti : TI) (p : PV) (K : PV → Option ρ) : Option ρ :=
  let n := ti.shs.length
  let go (us : List PV) : Option ρ := match valOf ti (us.take n) with
    | some v => K v
    | none => none
  match p with
  | .pt b i => match h[b]? with
    | some (.cells us) => go (us.drop i)
    | _ => none
  | .pe b i ver j q => match h[b]? with
    | some (.cells us) => match us[i]? with
      | some (.d (.arr _ t) xs) => go ((units t (xs.getD j (dflt t))).drop q)
      | _ => none
    | some (.row _ t xs u) => if ver = u then go ((units t (xs.getD j (dflt t))).drop q) else none
    | _ => none
  | .ce t x q => go ((units t x).drop q)
  | _ => none

/-- An element with some of its units laid anew. -/
def setU (t : Ty) (x : t.den) (q : Nat) (us : List PV) : Option t.den :=
  match pack t (splice (units t x) q us) with
  | some (y, []) => some y
  | _ => none

/-- A store: the heap behind it. -/
def storeA (h : List Blk) (ti : TI) (p v : PV) : Option (List Blk × Nat) :=
  match unitsOf ti v with
  | none => none
  | some vs => bif vs.all known then match p with
    | .pt b i => match h[b]? with
      | some (.cells us) => if ((us.drop i).take vs.length).map shp = ti.shs then some (h.set b (.cells (splice us i vs)), b) else none
      | _ => none
    | .pe b i ver j q => match h[b]? with
      | some (.cells us) => match us[i]? with
        | some (.d (.arr n t) xs) => if ((tsh t).drop q).take vs.length = ti.shs then (match setU t (xs.getD j (dflt t)) q vs with
          | some y => some (h.set b (.cells (us.set i (.d (.arr n t) (xs.set j y)))), b)
          | none => none) else none
        | _ => none
      | some (.row e t xs u) => if ver = u then (if ((tsh t).drop q).take vs.length = ti.shs then (match setU t (xs.getD j (dflt t)) q vs with
          | some y => some (h.set b (.row e t (xs.set j y) u), b)
          | none => none) else none) else none
      | _ => none
    | _ => none
    else none

def fieldAddrA (h : List Blk) (ti : TI) (p : PV) (f : Nat) : Option PV :=
  match ti.kind with
  | .st fs => match fs[f]? with
    | some (k, _, _) => match p with
      | .pt b i => match h[b]? with
        | some (.cells us) => if ((us.drop i).take ti.shs.length).map shp = ti.shs then some (.pt b (i + k)) else none
        | _ => none
      | .pe b i ver j q => match h[b]? with
        | some (.cells us) => match us[i]? with
          | some (.d (.arr _ t) _) => if ((tsh t).drop q).take ti.shs.length = ti.shs then some (.pe b i ver j (q + k)) else none
          | _ => none
        | some (.row _ t _ u) => if ver = u then (if ((tsh t).drop q).take ti.shs.length = ti.shs then some (.pe b i ver j (q + k)) else none) else none
        | _ => none
      | .ce t x q => if ((tsh t).drop q).take ti.shs.length = ti.shs then some (.ce t x (q + k)) else none
      | _ => none
    | none => none
  | _ => none

def inR (i : Int) (n : Nat) : Prop := 0 ≤ i ∧ i < (n : Int)
instance (i : Int) (n : Nat) : Decidable (inR i n) := inferInstanceAs (Decidable (_ ∧ _))

def indexAddrA (h : List Blk) (ti : TI) (x : PV) (i : Int) (K : PV → Option ρ) : Option ρ :=
  match ti.kind with
  | .sl e => match E.tt e with
    | none => none
    | some te => match x with
      | .d (.sl t) xs => if tsh t = te.shs then (if inR i xs.length then K (.ce t (xs.getD i.toNat (dflt t)) 0) else none) else none
      | .ro b ver off len => match h[b]? with
        | some (.row _ t _ u) => if ver = u ∧ tsh t = te.shs then (if inR i len then K (.pe b 0 ver (off + i.toNat) 0) else none) else none
        | _ => none
      | .ar b i0 off len => match h[b]? with
        | some (.cells us) => match us[i0]? with
          | some (.d (.arr _ t) _) => if tsh t = te.shs then (if inR i len then K (.pe b i0 0 (off + i.toNat) 0) else none) else none
          | _ => none
        | _ => none
      | _ => none
  | .arr n e => match E.tt e with
    | none => none
    | some te => match x with
      | .pt b i0 => match h[b]? with
        | some (.cells us) => match us[i0]? with
          | some (.d (.arr m t) _) => if m = n ∧ tsh t = te.shs then (if inR i n then K (.pe b i0 0 i.toNat 0) else none) else none
          | _ => none
        | _ => none
      | .ce t x q => match (units t x)[q]? with
        | some (.d (.arr m t') xs) => if m = n ∧ tsh t' = te.shs then (if inR i n then K (.ce t' (xs.getD i.toNat (dflt t')) 0) else none) else none
        | _ => none
      | _ => none
  | _ => none

def isAggV : PV → Bool
  | .d t _ => t.agg
  | .ag _ => true
  | _ => false

def fieldA (ti : TI) (x : PV) (f : Nat) : Option PV :=
  match ti.kind with
  | .st fs => match fs[f]? with
    | some (k, _, ft) => match E.tt ft with
      | some tf => match unitsOf ti x with
        | some us => bif us.all known && isAggV x then valOf tf ((us.drop k).take tf.shs.length) else none
        | none => none
      | none => none
    | none => none
  | _ => none

def byteAt (s : List UInt8) (i : Nat) : Int := ((s.getD i 0).toNat : Int)

def indexA (ti : TI) (x : PV) (i : Int) (K : PV → Option ρ) : Option ρ :=
  match ti.kind, x with
  | .str, .d .str s => if inR i s.length then K (.d (.int .u8) (byteAt s i.toNat)) else none
  | .arr n e, .d (.arr m t) xs => match E.tt e with
    | some te => if m = n ∧ te.ty = some t then (if inR i n then K (.d t (xs.getD i.toNat (dflt t))) else none) else none
    | none => none
  | _, _ => none

/-- A cut's bounds are in range. -/
def cutK (lo hi : Option Int) (n : Nat) (k : Nat → Nat → Option ρ) : Option ρ :=
  if 0 ≤ lo.getD 0 ∧ lo.getD 0 ≤ hi.getD n ∧ hi.getD n ≤ (n : Int) then k (lo.getD 0).toNat (hi.getD n).toNat else none

def cutL {α : Type} (xs : List α) (l u : Nat) : List α := (xs.take u).drop l

/-- Is this the type of the elements? -/
def elemOk (e : Nat) (t : Ty) : Bool := match E.tt e with
  | some te => decide (tsh t = te.shs)
  | none => false
def isTy (e : Nat) : Bool := (E.tt e).isSome

def sliceA (h : List Blk) (ti : TI) (x : PV) (lo hi : Option Int) (K : PV → Option ρ) : Option ρ :=
  match ti.kind, x with
  | .str, .d .str s => cutK lo hi s.length fun l u => K (.d .str (cutL s l u))
  | .sl e, .d (.sl t) xs => bif elemOk E e t then cutK lo hi xs.length fun l u => K (.d (.sl t) (cutL xs l u)) else none
  | .sl e, .nsl => bif isTy E e then cutK lo hi 0 fun _ _ => K .nsl else none
  | .sl e, .ro b ver off len => match h[b]? with
    | some (.row _ t _ u0) => if ver = u0 then (bif elemOk E e t then cutK lo hi len fun l u => if l = 0 then K (.ro b ver off u) else (if l < u then K (.ro b ver (off + l) (u - l)) else K (.d (.sl t) [])) else none) else none
    | _ => none
  | .arr n e, .pt b i => match h[b]? with
    | some (.cells us) => match us[i]? with
      | some (.d (.arr m _) _) => if m = n then (bif isTy E e then cutK lo hi n fun l u => if l = 0 then K (.ar b i 0 u) else none else none) else none
      | _ => none
    | _ => none
  | .arr n e, .ce t x q => match (units t x)[q]? with
    | some (.d (.arr m t') xs) => if m = n then (bif isTy E e then cutK lo hi n fun l u => if l = 0 then K (.d (.sl t') (cutL xs l u)) else none else none) else none
    | _ => none
  | _, _ => none

/-- What a slice holds, by value. -/
def rowOf (h : List Blk) : PV → Option ((t : Ty) × List t.den)
  | .d (.sl t) xs => some ⟨t, xs⟩
  | .ro b ver off len => match h[b]? with
    | some (.row _ t xs u) => if ver = u then some ⟨t, (xs.drop off).take len⟩ else none
    | _ => none
  | .ar b i off len => match h[b]? with
    | some (.cells us) => match us[i]? with
      | some (.d (.arr _ t) xs) => some ⟨t, (xs.drop off).take len⟩
      | _ => none
    | _ => none
  | _ => none

def lenA (h : List Blk) (ti : TI) (x : PV) : Option Nat :=
  match ti.kind, x with
  | .str, .d .str s => some s.length
  | .sl _, .d (.sl _) xs => some xs.length
  | .sl _, .nsl => some 0
  | .sl _, .ro b ver _ len => match h[b]? with
    | some (.row _ _ _ u) => if ver = u then some len else none
    | _ => none
  | .sl _, .ar b _ _ len => match h[b]? with
    | some (.cells _) => some len
    | _ => none
  | .arr n _, _ => some n
  | .ptr e, _ => match kindOf E e with
    | .arr n _ => some n
    | _ => none
  | _, _ => none

def isByte : Ty → Bool
  | .int .u8 => true
  | _ => false

/-- What is appended: a slice's elements, or a string's bytes. -/
def newsOf (h : List Blk) (x : PV) (t : Ty) : Option (List t.den) :=
  match x with
  | .nsl => some []
  | .d .str s => match t with
    | .int .u8 => some (s.map fun b => (b.toNat : Int))
    | _ => none
  | x => match rowOf h x with
    | some ⟨t', ys⟩ => cast? (.sl t') (.sl t) ys
    | none => none

def srcTy (tx : Nat) : Bool := match kindOf E tx with
  | .sl _ => true
  | .str => true
  | _ => false

/-- append: the slice, the heap, the block that was written. -/
def appendA (h : List Blk) (ty tx : Nat) (s x : PV) (K : PV → List Blk → List Nat → Option ρ) : Option ρ :=
  match E.tt ty with
  | none => none
  | some ti => match ti.kind with
    | .sl e => match E.tt e with
      | none => none
      | some te => bif srcTy E tx then match s with
        | .nsl => match te.ty with
          | none => none
          | some t => match newsOf h x t with
            | none => none
            | some ys => if ys.isEmpty = true then K .nsl h [] else (if 0 < t.sz ∧ 0 < te.bytes ∧ ys.length * te.bytes ≤ 140737488355328 then K (.ro h.length 0 0 ys.length) (h ++ [.row e t ys 0]) [] else none)
        | .ro b ver off len => match h[b]? with
          | some (.row e' t xs u) => if ver = u ∧ off = 0 ∧ e' = e ∧ te.ty = some t then (match newsOf h x t with
            | none => none
            | some ys => if 0 < te.bytes ∧ (len + ys.length) * te.bytes ≤ 140737488355328 then K (.ro b (u + 1) 0 (len + ys.length)) (h.set b (.row e t (xs.take len ++ ys) (u + 1))) [b] else none) else none
          | _ => none
        | _ => none
        else none
    | _ => none

def makeA (h : List Blk) (ty : Nat) (l c : Int) (K : PV → List Blk → Option ρ) : Option ρ :=
  match E.tt ty with
  | none => none
  | some ti => match ti.kind with
    | .sl e => match E.tt e with
      | none => none
      | some te => match te.ty with
        | none => none
        | some t => if 0 ≤ l ∧ l ≤ c ∧ c * te.bytes ≤ 140737488355328 ∧ 0 < t.sz ∧ 0 < te.bytes then K (.ro h.length 0 0 l.toNat) (h ++ [.row e t (List.replicate l.toNat (dflt t)) 0]) else none
    | _ => none

/-- A list of elements out of values. -/
def elems (t : Ty) : List PV → Option (List t.den)
  | [] => some []
  | p :: r => match pk1 t p with
    | some x => match elems t r with
      | some l => some (x :: l)
      | none => none
    | none => none

def buildSliceA (h : List Blk) (ty : Nat) (len : Nat) (parts : List (Nat × PV)) (K : PV → List Blk → Option ρ) : Option ρ :=
  match E.tt ty with
  | none => none
  | some ti => match ti.kind with
    | .sl e => match E.tt e with
      | none => none
      | some te => match te.ty with
        | none => none
        | some t => if parts.map (·.1) = List.range len ∧ 0 < t.sz ∧ len * t.sz ≤ 16777216 then (match elems t (parts.map (·.2)) with
          | none => none
          | some xs => K (.ro h.length 0 0 len) (h ++ [.row e t xs 0])) else none
    | _ => none

/-- Parts laid into units. -/
def fillA (fs : List (Nat × Nat × Nat)) : List PV → List (Nat × PV) → Option (List PV)
  | us, [] => some us
  | us, (i, p) :: r => match fs[i]? with
    | some (k, _, ft) => match E.tt ft with
      | some tf => match unitsOf tf p with
        | some vs => if vs.all known = true ∧ ((us.drop k).take vs.length).map shp = vs.map shp then fillA fs (splice us k vs) r else none
        | none => none
      | none => none
    | none => none

/-- A struct or array value out of its parts. -/
def buildA (ti : TI) (parts : List (Nat × PV)) : Option PV :=
  match ti.kind with
  | .st fs => if ti.zero.all wfU = true then (match fillA E fs ti.zero parts with
    | some us => valOf ti us
    | none => none) else none
  | .arr n e => match E.tt e with
    | some te => match te.ty with
      | some t => if parts.map (·.1) = List.range n ∧ 0 < t.sz ∧ ti.zero.all wfU = true then (match elems t (parts.map (·.2)) with
        | some xs => some (.d (.arr n t) xs)
        | none => none) else none
      | none => none
    | none => none
  | _ => none

def convA (src dst : Nat) (x : PV) (K : PV → Option ρ) : Option ρ :=
  match kindOf E src, kindOf E dst, x with
  | .int _, .int k, .d (.int _) n => K (.d (.int k) (k.wrap n))
  | .str, .str, .d .str b => K (.d .str b)
  | .int _, .str, .d (.int _) n => K (.d .str (Utf8.encode n).data.toList)
  | _, _, _ => none

/-- A rune out of a string, and its width. -/
def decL (s : List UInt8) (p : Nat) : Nat × Nat := Utf8.decode ⟨s.toArray⟩ p
/-- A string's iterator goes on. -/
def nextA (h : List Blk) (x : PV) (K : PV → List Blk → List Nat → Option ρ) : Option ρ :=
  match x with
  | .it b => match h[b]? with
    | some (.iter s p) => if p < s.length then K (.tu [.d .bool true, .d (.int .i64) (p : Int), .d (.int .i32) ((decL s p).1 : Int)]) (h.set b (.iter s (p + (decL s p).2))) [b] else K (.tu [.d .bool false]) h []
    | _ => none
  | _ => none

def minmaxG (mx : Bool) (k : IntKind) : Int → List PV → Option Int
  | a, [] => some a
  | a, .d (.int k') b :: r => if k' = k then minmaxG mx k (bif mx then (if b > a then b else a) else (if b < a then b else a)) r else none
  | _, _ => none
def minmaxA (mx : Bool) : List PV → Option PV
  | .d (.int k) a :: r => match minmaxG mx k a r with
    | some n => some (.d (.int k) n)
    | none => none
  | _ => none

def zeroA (ti : TI) : Option PV := if ti.zero.all wfU = true then valOf ti ti.zero else none

def assertA (asserted : Nat) (ok : Bool) (x : PV) (K : PV → Option ρ) : Option ρ :=
  match E.tt asserted with
  | some ti => match ti.kind, x with
    | .ifc, _ => none
    | _, .ic t v => if t = asserted then K (bif ok then .tu [v, .d .bool true] else v) else (bif ok then (match zeroA ti with
      | some z => K (.tu [z, .d .bool false])
      | none => none) else none)
    | _, .ni => bif ok then (match zeroA ti with
      | some z => K (.tu [z, .d .bool false])
      | none => none) else none
    | _, _ => none
  | none => none

end
end Go.Fy

namespace Go.Fy
open Go.RowKit

inductive OutV where
  | ret (v : PV)
  | pan (v : PV)

abbrev KO (ρ : Type) := OutV → List Blk → List Nat → Option ρ
abbrev KV (ρ : Type) := PV → List Blk → List Nat → Option ρ

structure Orc (ρ : Type) where
  call : Nat → List PV → List Blk → KO ρ → Option ρ
  round : Nat → List PV → List Blk → KO ρ → Option ρ

/-! ### A contract's call -/
def isRo : PV → Bool
  | .ro .. => true
  | _ => false
def isAr : PV → Bool
  | .ar .. => true
  | _ => false

/-- A datum out of a value. -/
def toD (h : List Blk) (t : Ty) (p : PV) : Option t.den := match p with
  | .d t' x => cast? t' t x
  | .nsl => nilOf t
  | p => match rowOf h p with
    | some ⟨t', xs⟩ => cast? (.sl t') t xs
    | none => none

def toDs (h : List Blk) : (ts : List Ty) → List PV → Option (DenL ts)
  | [], [] => some ()
  | t :: ts, p :: ps => match toD h t p with
    | some x => match toDs h ts ps with
      | some xs => some (x, xs)
      | none => none
    | none => none
  | _, _ => none

def ofRes : (ts : List Ty) → DenL ts → List PV
  | [], _ => []
  | t :: ts, x => .d t x.1 :: ofRes ts x.2
def one (vs : List PV) : PV := match vs with
  | [v] => v
  | vs => .tu vs

/-- Rows that are handed over for good: nobody's from now on. -/
def freeze (h : List Blk) : List PV → List Blk × List Nat
  | [] => (h, [])
  | .ro b _ _ _ :: r => ((freeze (h.set b .dead) r).1, b :: (freeze (h.set b .dead) r).2)
  | _ :: r => freeze h r

def callCon {ρ : Type} (c : Con) (as : List PV) (h : List Blk) (K : KO ρ) : Option ρ :=
  match toDs h c.args as with
  | none => none
  | some xs =>
    bif c.res.all noSl then (match c.fn xs with
      | none => none
      | some (.ret r) => K (.ret (one (ofRes c.res r))) h []
      | some (.pan t τ x) => bif noSl τ then K (.pan (.ic t (.d τ x))) h [] else none)
    else bif as.any isAr then none
    else (match c.fn xs with
      | none => none
      | some (.ret r) => K (.ret (one (ofRes c.res r))) (freeze h as).1 (freeze h as).2
      | some (.pan t τ x) => K (.pan (.ic t (.d τ x))) (freeze h as).1 (freeze h as).2)

section
variable {ρ : Type} (E : Env) (orc : Orc ρ)

def parts (ts : List PV) (ps : Array (Nat × Operand)) : List (Nat × PV) := ps.toList.map fun p => (p.1, opd E ts p.2)

def callA (f : PV) (as : List PV) (h : List Blk) (K KP : KV ρ) : Option ρ :=
  let ko : KO ρ := fun out h' lg => match out with
    | .ret v => K v h' lg
    | .pan v => KP v h' lg
  match f with
  | .fn g caps => match E.con g with
    | some c => callCon c (as ++ caps) h ko
    | none => orc.call g (as ++ caps) h ko
  | .yl l => orc.round l as h ko
  | _ => none

def builtinA (b : Builtin) (ats : List Nat) (as : List PV) (h : List Blk) (K KP : KV ρ) : Option ρ :=
  match b, ats, as with
  | .len, ty :: _, [x] => match E.tt ty with
    | some ti => match lenA E h ti x with
      | some n => K (.d (.int .i64) (n : Int)) h []
      | none => none
    | none => none
  | .append, [ty, tx], [s, x] => appendA E h ty tx s x K
  | .max, _, as => match minmaxA true as with
    | some v => K v h []
    | none => none
  | .min, _, as => match minmaxA false as with
    | some v => K v h []
    | none => none
  | .panic, _, [.ic t v] => KP (.ic t v) h []
  | _, _, _ => none

def isK : Operand → Bool
  | .const _ => true
  | _ => false

def evOp (ts : List PV) (h : List Blk) (o : Oper) (K KP : KV ρ) : Option ρ :=
  let e := opd E ts
  match o.op with
  | .move x => K (e x) h []
  | .assign x => K (e x) h []
  | .pick c a b => pickA (e c) (e a) (e b) fun v => K v h []
  | .alloc t => match E.tt t with
    | some ti => if ti.zero.all wfU = true then K (.pt h.length 0) (h ++ [.cells ti.zero]) [] else none
    | none => none
  | .box t x => match E.tt t with
    | some ti => match unitsOf ti (e x) with
      | some us => bif us.all known then K (.pt h.length 0) (h ++ [.cells us]) [] else none
      | none => none
    | none => none
  | .build t ps => match E.tt t with
    | some ti => match buildA E ti (parts E ts ps) with
      | some v => K v h []
      | none => none
    | none => none
  | .buildSlice t n ps => buildSliceA E h t n (parts E ts ps) fun v h' => K v h' []
  | .load t a => match E.tt t with
    | some ti => loadA h ti (e a) fun v => K v h []
    | none => none
  | .store t a x => match E.tt t with
    | some ti => match storeA h ti (e a) (e x) with
      | some (h', b) => K .un h' [b]
      | none => none
    | none => none
  | .nilCheck x => match e x with
    | .pt b i => K (.pt b i) h []
    | .pe b i v j q => K (.pe b i v j q) h []
    | .ce t x q => K (.ce t x q) h []
    | _ => none
  | .binOp op t x y _ => binOpA E op t (isK x || isK y) (e x) (e y) fun v => K v h []
  | .unOp op _ x => unOpA op (e x) fun v => K v h []
  | .convert s d x => convA E s d (e x) fun v => K v h []
  | .makeInterface t x => match E.tt t with
    | some ti => match ti.kind with
      | .ifc => none
      | _ => K (.ic t (e x)) h []
    | none => none
  | .makeFunc (.func f) first caps => if first.size = 0 then K (.fn f (caps.toList.map e)) h [] else none
  | .makeSlice t l c => match pvInt (e l), pvInt (e c) with
    | some l, some c => makeA E h t l c fun v h' => K v h' []
    | _, _ => none
  | .slice t x lo hi none => match E.tt t with
    | some ti => match (match lo with | none => some none | some a => (pvInt (e a)).map some), (match hi with | none => some none | some a => (pvInt (e a)).map some) with
      | some lo, some hi => sliceA E h ti (e x) lo hi fun v => K v h []
      | _, _ => none
    | none => none
  | .fieldAddr t x f => match E.tt t with
    | some ti => match fieldAddrA h ti (e x) f with
      | some v => K v h []
      | none => none
    | none => none
  | .field t x f => match E.tt t with
    | some ti => match fieldA E ti (e x) f with
      | some v => K v h []
      | none => none
    | none => none
  | .indexAddr t x i => match E.tt t, pvInt (e i) with
    | some ti, some i => indexAddrA E h ti (e x) i fun v => K v h []
    | _, _ => none
  | .index t x i => match E.tt t, pvInt (e i) with
    | some ti, some i => indexA E ti (e x) i fun v => K v h []
    | _, _ => none
  | .extract t i => match e t with
    | .tu vs => match vs[i]? with
      | some v => K v h []
      | none => none
    | _ => none
  | .typeAssert x _ a ok => assertA E a ok (e x) fun v => K v h []
  | .range t x => match kindOf E t, e x with
    | .str, .d .str s => K (.it h.length) (h ++ [.iter s 0]) []
    | _, _ => none
  | .next x true => nextA h (e x) K
  | .panic x => match e x with
    | .ic t v => KP (.ic t v) h []
    | _ => none
  | .call c => match c.callee with
    | .value f => callA E orc (e f) (c.args.toList.map e) h K KP
    | .builtin b => builtinA E b c.argTypes.toList (c.args.toList.map e) h K KP
    | .invoke _ _ => none
  | _ => none

/-! ### Regions -/
def putT (ts : List PV) (d : Option Nat) (v : PV) : List PV := match d with
  | some d => ts.set d v
  | none => ts

/-- One operation, its guard asked. -/
def evG (all : List Oper) (ts : List PV) (h : List Blk) (o : Oper) (K : List PV → List Blk → List Nat → Option ρ) (KP : KV ρ) : Option ρ :=
  let run (ts : List PV) : Option ρ := evOp E orc ts h o (fun v h' lg => K (putT ts o.dst v) h' lg) KP
  match o.guard with
  | none => run ts
  | some (j, want) => match (all[j]?).bind (·.dst) with
    | none => none
    | some t => match ts.getD t .un with
      | .d .bool b =>
        let skip (ts : List PV) : Option ρ := K (putT ts o.dst (.tu [])) h []
        bif want then (bif b then run (ts.set t (.d .bool true)) else skip (ts.set t (.d .bool false)))
        else (bif b then skip (ts.set t (.d .bool true)) else run (ts.set t (.d .bool false)))
      | .tu [] => K (putT ts o.dst (.tu [])) h []
      | _ => none

def evOps (all : List Oper) : List Oper → List PV → List Blk → List Nat → (List PV → List Blk → List Nat → Option ρ) → KV ρ → Option ρ
  | [], ts, h, lg, K, _ => K ts h lg
  | o :: r, ts, h, lg, K, KP => evG E orc all ts h o (fun ts' h' _ => evOps all r ts' h' lg K KP) (fun v h' _ => KP v h' lg)

/-! ### Code -/
/-- Loops: rounds. -/
def evLoop (f : St → (Ex → St → Option ρ) → Option ρ) (gc : St → St) : Nat → St → (Ex → St → Option ρ) → Option ρ
  | 0, _, _ => none
  | k + 1, σ, K => f σ fun x σ' => match x with
    | .normal => evLoop f gc k (gc σ') K
    | x => K x σ'

mutual
/-- Does a value lead to blocks below n alone? -/
def rb (n : Nat) : PV → Bool
  | .pt b _ => decide (b < n)
  | .pe b _ _ _ _ => decide (b < n)
  | .ro b _ _ _ => decide (b < n)
  | .ar b _ _ _ => decide (b < n)
  | .mp b => decide (b < n)
  | .it b => decide (b < n)
  | .yl b => decide (b < n)
  | .ag us => rbs n us
  | .tu us => rbs n us
  | .fn _ us => rbs n us
  | .ic _ v => rb n v
  | _ => true
def rbs (n : Nat) : List PV → Bool
  | [] => true
  | p :: r => rb n p && rbs n r
end
def rbB (n : Nat) : Blk → Bool
  | .cells us => rbs n us
  | .loop r => rbs n r.tmps
  | _ => true

/-- A code's first region. -/
def keyOf : Code → Nat
  | .region i _ _ => i
  | .seq a _ => keyOf a
  | .cond _ a _ => keyOf a
  | .block _ a => keyOf a
  | .loop a => keyOf a
  | .rangeFunc _ _ a _ => keyOf a
  | .scope a => keyOf a
  | _ => 0
/-- Temporaries that nobody asks for are let go. -/
def clrL (l : List Nat) : Nat → List PV → List PV
  | _, [] => []
  | i, p :: r => (bif l.any (Nat.beq i) then p else .un) :: clrL l (i + 1) r
def clrT (l : Option (List Nat)) (ts : List PV) : List PV := match l with
  | some l => clrL l 0 ts
  | none => ts
def clr (l : Option (List Nat)) (σ : St) : St := { σ with ts := clrT l σ.ts }

/-- What was made since is let go, where nothing leads there. -/
def gcM : Nat → Nat → St → St
  | 0, _, σ => σ
  | j + 1, m, σ => bif (σ.h.take m).all (rbB m) && (rbs m σ.ts && σ.df.all (fun d => decide (d < m))) then { σ with h := σ.h.take m, wl := σ.wl.filter (fun b => decide (b < m)) } else gcM j (m + 1) σ
def gcT (kl : Option (List Nat)) (n : Nat) (σ : St) : St := gcM (σ.h.length - n) n (clr kl σ)
def gcX (kl : Option (List Nat)) (n : Nat) (x : Ex) (σ : St) : St := match x with
  | .panic v => bif rb n v && ((σ.h.take n).all (rbB n) && σ.df.all (fun d => decide (d < n))) then { ts := [], h := σ.h.take n, df := σ.df, wl := σ.wl.filter (fun b => decide (b < n)) } else { σ with ts := [] }
  | _ => gcT kl n σ
def gcO (n : Nat) (v : OutV) (h : List Blk) : List Blk :=
  bif (h.take n).all (rbB n) && (match v with | .ret v => rb n v | .pan v => rb n v) then h.take n else h

/-- Regions that draw an order, of which it is known that they may be read as text. -/
def drOk (ok : Array Oper → Bool) (dr : Nat → Bool) : Code → Bool
  | .region id ops d => !d || !dr id || ok ops
  | .seq x y => drOk ok dr x && drOk ok dr y
  | .cond _ x y => drOk ok dr x && drOk ok dr y
  | .block _ x => drOk ok dr x
  | .loop x => drOk ok dr x
  | .rangeFunc _ _ x y => drOk ok dr x && drOk ok dr y
  | .scope x => drOk ok dr x
  | _ => true

def evCode (inR : Bool) (fno : Nat) (k : Nat) : Code → St → (Ex → St → Option ρ) → Option ρ
  | .skip, σ, K => K .normal σ
  | .label _, σ, K => K .normal σ
  | .region id ops true, σ, K => match E.re fno id ops σ.ts σ.h with
    | some q => K .normal { σ with ts := q.1, h := q.2.1, wl := σ.wl ++ q.2.2 }
    | none => bif E.dr fno id then
      evOps E orc ops.toList ops.toList σ.ts σ.h [] (fun ts h l => K .normal { σ with ts := ts, h := h, wl := σ.wl ++ l }) (fun _ _ _ => none) else none
  | .region _ ops false, σ, K =>
      evOps E orc ops.toList ops.toList σ.ts σ.h [] (fun ts h l => K .normal { σ with ts := ts, h := h, wl := σ.wl ++ l }) (fun v h l => K (.panic v) { σ with h := h, wl := σ.wl ++ l })
  | .seq a b, σ, K => evCode inR fno k a σ fun x σ' => match x with
    | .normal => evCode inR fno k b σ' K
    | x => K x σ'
  | .cond c a b, σ, K => match opd E σ.ts c with
    | .d .bool t => bif t then evCode inR fno k a σ K else evCode inR fno k b σ K
    | _ => none
  | .block id c, σ, K => evCode inR fno k c σ fun x σ' => match x with
    | .exit i => if i = id then K .normal σ' else K (.exit i) σ'
    | x => K x σ'
  | .loop c, σ, K => evLoop (fun σ K => evCode inR fno k c σ K) (gcT (E.kp fno (keyOf c)) σ.h.length) k (clr (E.kp fno (keyOf c)) σ) (fun x σ' => K x (gcX (E.kp fno (keyOf c)) σ.h.length x σ'))
  | .rangeFunc g ps x y, σ, K => bif inR then none else match opd E σ.ts g with
    | .fn f caps => orc.call f (.yl (σ.h.length + 1) :: caps)
        (σ.h ++ [.defs, .loop { state := .ready, pending := none, fno := fno, tmps := clrT (E.kp fno (keyOf x)) σ.ts, params := ps.toList, assign := x, body := y }]) fun out h2 lg =>
        match h2[σ.h.length + 1]? with
        | some (.loop r) => match out with
          | .pan v => K (.panic v) { σ with h := h2, df := σ.h.length :: σ.df, wl := σ.wl ++ lg }
          | .ret _ => match r.state with
            | .busy => none
            | _ =>
              let σ' : St := { σ with h := h2.set (σ.h.length + 1) (.loop { r with state := .exhausted }), df := σ.h.length :: σ.df, wl := σ.wl ++ lg }
              match r.pending with
              | none => K .normal σ'
              | some .ret => K .ret σ'
              | some (.exit i) => K (.exit i) σ'
              | _ => none
        | _ => none
    | _ => none
  | .scope c, σ, K => evCode inR fno k c σ fun x σ' => match x with
    | .goto _ => none
    | x => K x σ'
  | .exit i, σ, K => K (.exit i) σ
  | .goto l, σ, K => K (.goto l) σ
  | .ret, σ, K => K .ret σ
  | _, _, _ => none

/-- A result. -/
def resV (ts : List PV) (h : List Blk) : ResultVar → Option PV
  | .tmp t => some (ts.getD t .un)
  | .cell a t => match E.tt t with
    | some ti => loadA h ti (ts.getD a .un) some
    | none => none
def resVs (ts : List PV) (h : List Blk) : List ResultVar → Option (List PV)
  | [] => some []
  | r :: l => match resV E ts h r with
    | some v => match resVs ts h l with
      | some vs => some (v :: vs)
      | none => none
    | none => none

/-- The blocks for loops' deferred calls are shut. -/
def shut : List Blk → List Nat → Option (List Blk)
  | h, [] => some h
  | h, i :: r => match h[i]? with
    | some .defs => shut (h.set i .dead) r
    | _ => none

/-- A function's call. -/
def evFn (k : Nat) (f : Nat) (as : List PV) (h : List Blk) (K : KO ρ) : Option ρ :=
  match E.fn f with
  | none => none
  | some fn => match fn.body with
    | none => none
    | some c => evCode E orc false f k c { ts := as ++ List.replicate (fn.ntmps - as.length) .un, h := h, df := [], wl := [] } fun x σ =>
      match shut σ.h σ.df with
      | none => none
      | some h' =>
        let out (v : OutV) : Option ρ := K v (gcO h.length v h') (σ.wl.filter (fun b => decide (b < h.length)))
        let done : Option ρ := match resVs E σ.ts h' fn.results.toList with
          | some vs => out (.ret (one vs))
          | none => none
        match x with
        | .normal => done
        | .ret => done
        | .panic v => out (.pan v)
        | _ => none

def setP : List PV → List Tmp → List PV → List PV
  | ts, t :: r, v :: vs => setP (ts.set t v) r vs
  | ts, _, _ => ts

/-- A round of a loop over a function. -/
def evRound (k : Nat) (l : Nat) (as : List PV) (h : List Blk) (K : KO ρ) : Option ρ :=
  match h[l]? with
  | some (.loop r) => if as.length = r.params.length ∧ drOk E.ok (E.dr r.fno) r.assign = true ∧ drOk E.ok (E.dr r.fno) r.body = true then
      evCode E orc true r.fno k r.assign { ts := setP r.tmps r.params as, h := h, df := [], wl := [] } fun x σ => match x with
        | .normal => match σ.h[l]? with
          | some (.loop r1) => match r1.state with
            | .ready => evCode E orc true r.fno k r.body { σ with h := σ.h.set l (.loop { r1 with state := .busy }) } fun x2 σ2 => match σ2.h[l]? with
              | some (.loop r2) =>
                let fin (j : Option Code) : Option ρ :=
                  K (.ret (.d .bool j.isNone)) (gcO h.length (.ret (.d .bool j.isNone)) (σ2.h.set l (.loop { r2 with state := if j.isNone then .ready else .done, pending := j }))) (l :: σ2.wl.filter (fun b => decide (b < h.length)))
                match x2 with
                | .normal => fin none
                | .ret => fin (some .ret)
                | .exit i => fin (some (.exit i))
                | _ => none
              | _ => none
            | _ => none
          | _ => none
        | _ => none
    else none
  | _ => none
end

def orcN {ρ : Type} (E : Env) (k : Nat) : Nat → Orc ρ
  | 0 => { call := fun _ _ _ _ => none, round := fun _ _ _ _ => none }
  | d + 1 => { call := fun f as h K => evFn E (orcN E k d) k f as h K, round := fun l as h K => evRound E (orcN E k d) k l as h K }

end Go.Fy

namespace Go.Fy
open Go.RowKit

theorem BR.ext {c c' : Cx} (h : Ext c c') {i : Nat} {x : Blk} (hb : c'.bs.getD i 0 = c.bs.getD i 0) (hc : c'.caps.getD i 0 = c.caps.getD i 0)
    (hw : c'.w.heap[c.bs.getD i 0]? = c.w.heap[c.bs.getD i 0]?) (hx : BR c i x) : BR c' i x := by
  cases x with
  | dead => trivial
  | cells us =>
    obtain ⟨cs, e, h1, h2, h3⟩ := hx
    exact ⟨cs, e, by rw [hb, hw]; exact h1, URs.ext h us cs h2, h3⟩
  | row e t xs u =>
    obtain ⟨cs, rest, h1, h2, h3, h4, h5, h6⟩ := hx
    exact ⟨cs, rest, by rw [hb, hw]; exact h1, Chain.mono (fun x cs => DC.keeps h.keeps t x cs) xs cs h2, h3, by rw [hc]; exact h4, by rw [hc]; exact h5, by rw [hc]; exact h6⟩
  | loop r =>
    obtain ⟨lp, h1, h2, h3, h5, h6⟩ := hx
    exact ⟨lp, by rw [hb, hw]; exact h1, h2, h3, VRs.ext h _ _ h5, h6⟩
  | defs => show c'.w.heap[c'.bs.getD i 0]? = _; rw [hb, hw]; exact hx
  | map es k =>
    obtain ⟨ms, h1, h2⟩ := hx
    exact ⟨ms, by rw [hb, hw]; exact h1, h2⟩
  | iter s p => show c'.w.heap[c'.bs.getD i 0]? = _; rw [hb, hw]; exact hx

theorem getD_append_lt (l m : List Nat) (i : Nat) (h : i < l.length) : (l ++ m).getD i 0 = l.getD i 0 := by
  simp [List.getD_eq_getElem?_getD, List.getElem?_append_left h]
theorem getD_append_at (l : List Nat) (x : Nat) : (l ++ [x]).getD l.length 0 = x := by
  simp [List.getD_eq_getElem?_getD]

theorem Goes.same {c c' : Cx} {i : Nat} (hb : c'.bs.getD i 0 = c.bs.getD i 0) (hc : c'.caps.getD i 0 = c.caps.getD i 0) (y : Blk) : Goes c c' i y y := by
  cases y with
  | dead => trivial
  | cells us => exact ⟨rfl, hb⟩
  | row e t xs u => exact ⟨Nat.le_refl _, fun _ => ⟨rfl, rfl, hb, hc⟩⟩
  | loop r => exact hb
  | defs => exact hb
  | map es k => exact hb
  | iter s p => exact hb

theorem live_lt {H : List Blk} {i : Nat} (h : live H i) : i < H.length := by
  obtain ⟨x, hx, _⟩ := h
  exact (List.getElem?_eq_some_iff.1 hx).1

/-! ### A new block -/
def Cx.push (c : Cx) (o : Obj) (x : Blk) (cap : Nat) : Cx := { c with w := c.w.alloc o, bs := c.bs ++ [c.w.heap.size], caps := c.caps ++ [cap], H := c.H ++ [x] }

theorem push_ext {w0 : World} {c : Cx} (h : Rel w0 c) (o : Obj) (x : Blk) (cap : Nat) : Ext c (c.push o x cap) := by
  refine ⟨⟨fun b hb => ?_, fun b hb => ?_⟩, by simp [Cx.push], fun i y y' hy hy' => ?_⟩
  · rcases hb with hb | ⟨h1, h2, h3⟩
    · exact .inl hb
    · refine .inr ⟨h1, by simp [Cx.push]; omega, fun i hi => ?_⟩
      have hlt := live_lt hi
      simp only [Cx.push, List.length_append, List.length_singleton] at hlt
      by_cases hi' : i < c.H.length
      · have hl : live c.H i := by
          obtain ⟨y, hy, hd⟩ := hi
          exact ⟨y, by simpa [Cx.push, List.getElem?_append_left hi'] using hy, hd⟩
        have := h3 i hl
        simp only [Cx.push]
        rw [getD_append_lt _ _ _ (by rw [h.len]; exact hi')]
        exact this
      · have : i = c.bs.length := by rw [h.len]; omega
        subst this
        simp only [Cx.push]
        rw [getD_append_at]
        omega
  · have hlt : b < c.w.heap.size := by
      rcases hb with hb | hb
      · have := h.okl b hb; have := h.below.size; have := h.lo; omega
      · exact hb.2.1
    exact Below.heap_alloc c.w o b hlt
  · have hi : i < c.H.length := (List.getElem?_eq_some_iff.1 hy).1
    have : y' = y := by
      simp only [Cx.push, List.getElem?_append_left hi] at hy'
      rw [hy] at hy'
      injection hy' with h'
      exact h'.symm
    subst this
    have hbs : (c.push o x cap).bs.getD i 0 = c.bs.getD i 0 := getD_append_lt _ _ _ (by rw [h.len]; exact hi)
    have hcs : (c.push o x cap).caps.getD i 0 = c.caps.getD i 0 := getD_append_lt _ _ _ (by rw [h.lenc]; exact hi)
    exact Goes.same hbs hcs y'

theorem push_rel {w0 : World} {c : Cx} (h : Rel w0 c) (o : Obj) (x : Blk) (cap : Nat) (hx : BR (c.push o x cap) c.H.length x) : Rel w0 (c.push o x cap) := by
  have hext := push_ext h o x cap
  have hlt : ∀ i, live c.H i → c.bs.getD i 0 < c.w.heap.size := fun i hi => (h.rng i hi).2
  have old : ∀ i, i < c.H.length → (c.push o x cap).bs.getD i 0 = c.bs.getD i 0 := fun i hi => getD_append_lt _ _ _ (by rw [h.len]; exact hi)
  have new : (c.push o x cap).bs.getD c.H.length 0 = c.w.heap.size := by rw [← h.len]; exact getD_append_at _ _
  have lv : ∀ i, live (c.push o x cap).H i → i < c.H.length → live c.H i := fun i ⟨y, hy, hd⟩ hi => ⟨y, by simpa [Cx.push, List.getElem?_append_left hi] using hy, hd⟩
  have bnd : ∀ i, live (c.push o x cap).H i → i < c.H.length ∨ i = c.H.length := fun i hi => by
    have := live_lt hi
    simp only [Cx.push, List.length_append, List.length_singleton] at this
    omega
  refine ⟨h.lo, h.okl, by simp [Cx.push, h.len], by simp [Cx.push, h.lenc], h.below.alloc (by have := h.below.size; have := h.lo; show c.lo ≤ _; omega) o, ?_, ?_, ?_⟩
  · intro i j hi hj he
    rcases bnd i hi with hi' | rfl <;> rcases bnd j hj with hj' | rfl
    · rw [old i hi', old j hj'] at he
      exact h.inj i j (lv i hi hi') (lv j hj hj') he
    · rw [old i hi', new] at he
      have := hlt i (lv i hi hi')
      omega
    · rw [new, old j hj'] at he
      have := hlt j (lv j hj hj')
      omega
    · rfl
  · intro i hi
    have hsz : (c.push o x cap).w.heap.size = c.w.heap.size + 1 := by simp [Cx.push]
    rcases bnd i hi with hi' | rfl
    · have := h.rng i (lv i hi hi')
      rw [old i hi', hsz]
      exact ⟨this.1, by omega⟩
    · rw [new, hsz]
      exact ⟨by have := h.below.size; have := h.lo; show c.lo ≤ _; omega, by omega⟩
  · intro i y hy
    by_cases hi : i < c.H.length
    · have hy' : c.H[i]? = some y := by simpa [Cx.push, List.getElem?_append_left hi] using hy
      by_cases hd : y = .dead
      · subst hd; trivial
      · refine BR.ext hext (old i hi) (getD_append_lt _ _ _ (by rw [h.lenc]; exact hi)) ?_ (h.blk i y hy')
        exact Below.heap_alloc c.w o _ (hlt i ⟨y, hy', hd⟩)
    · have hi' : i = c.H.length := by
        have := (List.getElem?_eq_some_iff.1 hy).1
        simp only [Cx.push, List.length_append, List.length_singleton] at this
        omega
      subst hi'
      have : y = x := by simpa [Cx.push] using hy.symm
      subst this
      exact hx

/-! ### A block turned -/
/-- The world turned at one of the run's blocks alone, its abstract block set. -/
structure Turns (c : Cx) (i : Nat) (x : Blk) (w' : World) : Prop where
  below : Below c.lo c.w w'
  size : w'.heap.size = c.w.heap.size
  same : ∀ b, b ≠ c.bs.getD i 0 → w'.heap[b]? = c.w.heap[b]?

def Cx.turn (c : Cx) (i : Nat) (x : Blk) (w' : World) : Cx := { c with w := w', H := c.H.set i x }

theorem live_set {H : List Blk} {i j : Nat} {x : Blk} (hx : x ≠ .dead) (hi : live H i) : live (H.set i x) j ↔ live H j := by
  have hlt := live_lt hi
  constructor
  · rintro ⟨y, hy, hd⟩
    by_cases e : i = j
    · subst e; exact hi
    · exact ⟨y, by rwa [List.getElem?_set_ne e] at hy, hd⟩
  · rintro ⟨y, hy, hd⟩
    by_cases e : i = j
    · subst e; exact ⟨x, by simp [hlt], hx⟩
    · exact ⟨y, by rw [List.getElem?_set_ne e]; exact hy, hd⟩

theorem turn_ext {w0 : World} {c : Cx} (h : Rel w0 c) {i : Nat} {x y : Blk} {w' : World} (hi : c.H[i]? = some y) (hy : y ≠ .dead) (hx : x ≠ .dead) (ht : Turns c i x w')
    (hg : Goes c (c.turn i x w') i y x) : Ext c (c.turn i x w') := by
  have hl : live c.H i := ⟨y, hi, hy⟩
  refine ⟨⟨fun b hb => ?_, fun b hb => ?_⟩, by simp [Cx.turn], fun j z z' hz hz' => ?_⟩
  · rcases hb with hb | ⟨h1, h2, h3⟩
    · exact .inl hb
    · exact .inr ⟨h1, by simp only [Cx.turn]; rw [ht.size]; exact h2, fun j hj => h3 j ((live_set hx hl).1 hj)⟩
  · refine ht.same b ?_
    rcases hb with hb | ⟨h1, h2, h3⟩
    · have := h.okl b hb; have := (h.rng i hl).1; omega
    · exact (h3 i hl).symm
  · by_cases e : i = j
    · subst e
      have hlt := live_lt hl
      rw [hi] at hz
      injection hz with hz
      subst hz
      have : z' = x := by simpa [Cx.turn, hlt] using hz'.symm
      subst this
      exact hg
    · have : z' = z := by
        simp only [Cx.turn, List.getElem?_set_ne e] at hz'
        rw [hz] at hz'
        injection hz' with h'
        exact h'.symm
      subst this
      cases z' <;> simp [Goes, Cx.turn]

theorem turn_rel {w0 : World} {c : Cx} (h : Rel w0 c) {i : Nat} {x y : Blk} {w' : World} (hi : c.H[i]? = some y) (hy : y ≠ .dead) (hx : x ≠ .dead) (ht : Turns c i x w')
    (hg : Goes c (c.turn i x w') i y x) (hb : BR (c.turn i x w') i x) : Rel w0 (c.turn i x w') := by
  have hext := turn_ext h hi hy hx ht hg
  have hl : live c.H i := ⟨y, hi, hy⟩
  have lv : ∀ j, live (c.turn i x w').H j → live c.H j := fun j hj => (live_set hx hl).1 hj
  refine ⟨h.lo, h.okl, by simp [Cx.turn, h.len], by simp [Cx.turn, h.lenc], h.below.trans ht.below, ?_, ?_, ?_⟩
  · exact fun a b ha hb he => h.inj a b (lv a ha) (lv b hb) he
  · intro j hj
    have := h.rng j (lv j hj)
    exact ⟨this.1, by simp only [Cx.turn]; rw [ht.size]; exact this.2⟩
  · intro j z hz
    by_cases e : i = j
    · subst e
      have hlt := live_lt hl
      have : z = x := by simpa [Cx.turn, hlt] using hz.symm
      subst this
      exact hb
    · have hz' : c.H[j]? = some z := by simpa [Cx.turn, List.getElem?_set_ne e] using hz
      by_cases hd : z = .dead
      · subst hd; trivial
      · refine BR.ext hext rfl rfl (ht.same _ fun he => e ?_) (h.blk j z hz')
        exact (h.inj j i ⟨z, hz', hd⟩ hl he).symm

/-! ### The world alone goes on -/
def Cx.on (c : Cx) (w' : World) : Cx := { c with w := w' }

theorem on_ext {c : Cx} {w0 : World} (h : Rel w0 c) {w' : World} (hb : Below c.w.heap.size c.w w') : Ext c (c.on w') := by
  refine ⟨⟨fun b hb' => ?_, fun b hb' => ?_⟩, Nat.le_refl _, fun i y y' hy hy' => ?_⟩
  · rcases hb' with hb' | ⟨h1, h2, h3⟩
    · exact .inl hb'
    · exact .inr ⟨h1, Nat.lt_of_lt_of_le h2 hb.size, h3⟩
  · refine hb.block b ?_
    rcases hb' with hb' | hb'
    · have := h.okl b hb'; have := h.below.size; have := h.lo; omega
    · exact hb'.2.1
  · simp only [Cx.on] at hy'
    rw [hy] at hy'
    injection hy' with e
    subst e
    cases y <;> simp [Goes, Cx.on]

theorem on_rel {c : Cx} {w0 : World} (h : Rel w0 c) {w' : World} (hb : Below c.w.heap.size c.w w') : Rel w0 (c.on w') := by
  have hext := on_ext h hb
  refine ⟨h.lo, h.okl, h.len, h.lenc, h.below.trans (hb.mono (by have := h.below.size; have := h.lo; omega)), h.inj, fun i hi => ⟨(h.rng i hi).1, Nat.lt_of_lt_of_le (h.rng i hi).2 hb.size⟩, fun i x hx => ?_⟩
  by_cases hd : x = .dead
  · subst hd; trivial
  · exact BR.ext hext rfl rfl (hb.block _ (h.rng i ⟨x, hx, hd⟩).2) (h.blk i x hx)

/-! ### A block let go -/
def Cx.kill (c : Cx) (i : Nat) : Cx := { c with H := c.H.set i .dead }

theorem live_kill {H : List Blk} {i j : Nat} (h : live (H.set i .dead) j) : live H j ∧ i ≠ j := by
  obtain ⟨y, hy, hd⟩ := h
  by_cases e : i = j
  · subst e
    by_cases hi : i < H.length
    · simp [hi] at hy; exact absurd hy.symm hd
    · simp [List.getElem?_eq_none (show (H.set i Blk.dead).length ≤ i by simp; omega)] at hy
  · exact ⟨⟨y, by rwa [List.getElem?_set_ne e] at hy, hd⟩, e⟩

theorem kill_ext (c : Cx) (i : Nat) : Ext c (c.kill i) := by
  refine ⟨⟨fun b hb => ?_, fun _ _ => rfl⟩, by simp [Cx.kill], fun j z z' hz hz' => ?_⟩
  · rcases hb with hb | ⟨h1, h2, h3⟩
    · exact .inl hb
    · exact .inr ⟨h1, h2, fun j hj => h3 j (live_kill hj).1⟩
  · by_cases e : i = j
    · subst e
      have hlt := (List.getElem?_eq_some_iff.1 hz).1
      have : z' = .dead := by simpa [Cx.kill, hlt] using hz'.symm
      subst this
      cases z <;> trivial
    · have : z' = z := by
        simp only [Cx.kill, List.getElem?_set_ne e] at hz'
        rw [hz] at hz'
        injection hz' with h'
        exact h'.symm
      subst this
      cases z' <;> simp [Goes, Cx.kill]

theorem kill_rel {w0 : World} {c : Cx} (h : Rel w0 c) (i : Nat) : Rel w0 (c.kill i) := by
  have hext := kill_ext c i
  refine ⟨h.lo, h.okl, by simp [Cx.kill, h.len], by simp [Cx.kill, h.lenc], h.below, fun a b ha hb he => h.inj a b (live_kill ha).1 (live_kill hb).1 he, fun j hj => h.rng j (live_kill hj).1, fun j z hz => ?_⟩
  by_cases e : i = j
  · subst e
    have hlt : i < c.H.length := by have := (List.getElem?_eq_some_iff.1 hz).1; simpa [Cx.kill] using this
    have : z = .dead := by simpa [Cx.kill, hlt] using hz.symm
    subst this
    trivial
  · exact BR.ext hext rfl rfl rfl (h.blk j z (by simpa [Cx.kill, List.getElem?_set_ne e] using hz))

/-- A block that is turned for the last time. -/
theorem die_ext {w0 : World} {c : Cx} (h : Rel w0 c) {i : Nat} {y : Blk} {w' : World} (hi : c.H[i]? = some y) (hy : y ≠ .dead) (ht : Turns c i .dead w') : Ext c (c.turn i .dead w') := by
  have hl : live c.H i := ⟨y, hi, hy⟩
  have hne : ∀ b, c.ok b → b ≠ c.bs.getD i 0 := by
    intro b hb he
    subst he
    rcases hb with hb | ⟨_, _, h3⟩
    · have := h.okl _ hb
      have := (h.rng i hl).1
      omega
    · exact h3 i hl rfl
  refine ⟨⟨fun b hb => ?_, fun b hb => ht.same b (hne b hb)⟩, by simp [Cx.turn], fun j z z' hz hz' => ?_⟩
  · rcases hb with hb | ⟨h1, h2, h3⟩
    · exact .inl hb
    · exact .inr ⟨h1, by show b < w'.heap.size; rw [ht.size]; exact h2, fun j hj => h3 j (live_kill hj).1⟩
  · by_cases e : i = j
    · subst e
      have hlt := live_lt hl
      have : z' = .dead := by simpa [Cx.turn, hlt] using hz'.symm
      subst this
      cases z <;> trivial
    · have : z' = z := by
        simp only [Cx.turn, List.getElem?_set_ne e] at hz'
        rw [hz] at hz'
        injection hz' with h'
        exact h'.symm
      subst this
      cases z' <;> simp [Goes, Cx.turn]

theorem die_rel {w0 : World} {c : Cx} (h : Rel w0 c) {i : Nat} {y : Blk} {w' : World} (hi : c.H[i]? = some y) (hy : y ≠ .dead) (ht : Turns c i .dead w') : Rel w0 (c.turn i .dead w') := by
  have hext := die_ext h hi hy ht
  have hl : live c.H i := ⟨y, hi, hy⟩
  refine ⟨h.lo, h.okl, by simp [Cx.turn, h.len], by simp [Cx.turn, h.lenc], h.below.trans ht.below, fun a b ha hb he => h.inj a b (live_kill ha).1 (live_kill hb).1 he,
    fun j hj => by have := h.rng j (live_kill hj).1; exact ⟨this.1, by show _ < w'.heap.size; rw [ht.size]; exact this.2⟩, fun j z hz => ?_⟩
  by_cases e : i = j
  · subst e
    have hlt := live_lt hl
    have : z = .dead := by simpa [Cx.turn, hlt] using hz.symm
    subst this
    trivial
  · have hz' : c.H[j]? = some z := by simpa [Cx.turn, List.getElem?_set_ne e] using hz
    by_cases hd : z = .dead
    · subst hd; trivial
    · refine BR.ext hext rfl rfl (ht.same _ fun he => e (h.inj j i ⟨z, hz', hd⟩ hl he).symm) (h.blk j z hz')

end Go.Fy

namespace Go.Fy
open Go.RowKit

/-! ### Units -/
theorem URs_append {c : Cx} : ∀ (us vs : List PV) (cs : List Value), URs c (us ++ vs) cs ↔ ∃ a b, cs = a ++ b ∧ URs c us a ∧ URs c vs b
  | [], vs, cs => by
    constructor
    · exact fun h => ⟨[], cs, rfl, by rw [URs], h⟩
    · rintro ⟨a, b, e, h1, h2⟩
      rw [URs] at h1
      subst h1
      rw [e]
      exact h2
  | u :: us, vs, cs => by
    rw [List.cons_append, URs_cons]
    constructor
    · rintro ⟨a, b, e, hu, hr⟩
      obtain ⟨b1, b2, e2, h1, h2⟩ := (URs_append us vs b).1 hr
      exact ⟨a ++ b1, b2, by rw [e, e2, List.append_assoc], URs_cons.2 ⟨a, b1, rfl, hu, h1⟩, h2⟩
    · rintro ⟨a, b, e, h1, h2⟩
      obtain ⟨a1, a2, e2, hu, hr⟩ := URs_cons.1 h1
      exact ⟨a1, a2 ++ b, by rw [e, e2, List.append_assoc], hu, (URs_append us vs _).2 ⟨a2, b, rfl, hr, h2⟩⟩

theorem UR.length {c : Cx} {u : PV} {a : List Value} (hw : wfU u = true) (h : UR c u a) : a.length = ssz (shp u) := by
  cases u with
  | d t x =>
    have := DC.length t x a h
    cases t <;> simp_all [wfU, shp, ssz, Ty.sz]
  | _ => obtain ⟨v, e, _⟩ := h; rw [e]; rfl

theorem URs.length {c : Cx} : ∀ (us : List PV) (cs : List Value), (∀ u ∈ us, wfU u = true) → URs c us cs → cs.length = ((us.map shp).map ssz).sum
  | [], cs, _, h => by rw [URs] at h; subst h; rfl
  | u :: us, cs, hw, h => by
    obtain ⟨a, b, e, hu, hr⟩ := URs_cons.1 h
    rw [e, List.length_append, UR.length (hw u (by simp)) hu, URs.length us b (fun x hx => hw x (by simp [hx])) hr]
    simp

theorem units_wf : ∀ (t : Ty) (x : t.den), ∀ u ∈ units t x, wfU u = true
  | .nil, _ => by simp [units]
  | .cons a b, x => by
    intro u hu
    rw [units, List.mem_append] at hu
    rcases hu with hu | hu
    · exact units_wf a x.1 u hu
    · exact units_wf b x.2 u hu
  | .bool, x => by simp [units, wfU]
  | .int k, x => by simp [units, wfU]
  | .str, x => by simp [units, wfU]
  | .sl t, x => by simp [units, wfU]
  | .arr n t, x => by simp [units, wfU]

theorem units_shp : ∀ (t : Ty) (x : t.den), (units t x).map shp = tsh t
  | .nil, _ => rfl
  | .cons a b, x => by rw [units, List.map_append, units_shp a, units_shp b]; rfl
  | .bool, x => rfl
  | .int k, x => rfl
  | .str, x => rfl
  | .sl t, x => rfl
  | .arr n t, x => rfl

theorem units_URs {c : Cx} : ∀ (t : Ty) (x : t.den) (cs : List Value), DC c.w c.ok t x cs → URs c (units t x) cs
  | .nil, _, cs, h => by rw [units, URs]; exact h
  | .cons a b, x, cs, ⟨p, q, e, hp, hq⟩ => (URs_append _ _ _).2 ⟨p, q, e, units_URs a x.1 p hp, units_URs b x.2 q hq⟩
  | .bool, x, cs, h => URs_cons.2 ⟨cs, [], by simp, h, by rw [URs]⟩
  | .int k, x, cs, h => URs_cons.2 ⟨cs, [], by simp, h, by rw [URs]⟩
  | .str, x, cs, h => URs_cons.2 ⟨cs, [], by simp, h, by rw [URs]⟩
  | .sl t, x, cs, h => URs_cons.2 ⟨cs, [], by simp, h, by rw [URs]⟩
  | .arr n t, x, cs, h => URs_cons.2 ⟨cs, [], by simp, h, by rw [URs]⟩

theorem nsl_DC {w : World} {ok : Nat → Prop} {t : Ty} : DC w ok (.sl t) [] [.slice none 0 0] := ⟨none, 0, rfl, Nat.le_refl _, fun h => absurd rfl h⟩

theorem cast?_some {t' t : Ty} {x : t'.den} {y : t.den} (h : cast? t' t x = some y) : ∃ e : t' = t, y = e ▸ x := by
  unfold cast? at h
  split at h
  · rename_i e
    injection h with h
    exact ⟨e, h.symm⟩
  · exact absurd h (by simp)

theorem pk1_sound {c : Cx} {t : Ty} {u : PV} {x : t.den} {a : List Value} (h : pk1 t u = some x) (hu : UR c u a) : DC c.w c.ok t x a := by
  cases u with
  | d t' y =>
    obtain ⟨rfl, rfl⟩ := cast?_some h
    exact hu
  | nsl =>
    obtain ⟨v, e', _, hv⟩ := hu
    rw [VR] at hv
    subst hv e'
    cases t with
    | sl t' =>
      simp only [pk1, nilOf, Option.some.injEq] at h
      subst h
      exact nsl_DC
    | _ => exact absurd h (by simp [pk1, nilOf])
  | _ => exact absurd h (by simp [pk1])

theorem packL_sound {c : Cx} {t : Ty} {us : List PV} {x : t.den} {r : List PV} {cs : List Value} (h : packL t us = some (x, r)) (hu : URs c us cs) :
    ∃ a b, cs = a ++ b ∧ DC c.w c.ok t x a ∧ URs c r b := by
  cases us with
  | nil => exact absurd h (by simp [packL])
  | cons u us =>
    simp only [packL] at h
    split at h
    · rename_i y hy
      simp only [Option.some.injEq, Prod.mk.injEq] at h
      obtain ⟨rfl, rfl⟩ := h
      obtain ⟨p, q, e, hp, hq⟩ := URs_cons.1 hu
      exact ⟨p, q, e, pk1_sound hy hp, hq⟩
    · exact absurd h (by simp)

theorem pack_sound {c : Cx} : ∀ (t : Ty) (us : List PV) (x : t.den) (r : List PV) (cs : List Value), pack t us = some (x, r) → URs c us cs → ∃ a b, cs = a ++ b ∧ DC c.w c.ok t x a ∧ URs c r b
  | .nil, us, x, r, cs, h, hu => by
    simp only [pack, Option.some.injEq, Prod.mk.injEq] at h
    rw [h.2] at hu
    exact ⟨[], cs, rfl, rfl, hu⟩
  | .cons a b, us, x, r, cs, h, hu => by
    simp only [pack] at h
    split at h
    · rename_i x1 r1 h1
      split at h
      · rename_i x2 r2 h2
        simp only [Option.some.injEq, Prod.mk.injEq] at h
        obtain ⟨rfl, rfl⟩ := h
        obtain ⟨c1, c2, e, d1, u1⟩ := pack_sound a us x1 r1 cs h1 hu
        obtain ⟨c3, c4, e', d2, u2⟩ := pack_sound b r1 x2 r2 c2 h2 u1
        exact ⟨c1 ++ c3, c4, by rw [e, e', List.append_assoc], ⟨c1, c3, rfl, d1, d2⟩, u2⟩
      · exact absurd h (by simp)
    · exact absurd h (by simp)
  | .bool, _, _, _, _, h, hu => packL_sound h hu
  | .int _, _, _, _, _, h, hu => packL_sound h hu
  | .str, _, _, _, _, h, hu => packL_sound h hu
  | .sl _, _, _, _, _, h, hu => packL_sound h hu
  | .arr _ _, _, _, _, _, h, hu => packL_sound h hu

/-! ### Parts of a row of cells -/
theorem At.split {w : World} {b o : Nat} {a cs : List Value} (h : At w b o (a ++ cs)) : At w b o a ∧ At w b (o + a.length) cs := by
  constructor
  · intro j v hv
    refine h j v ?_
    rw [List.getElem?_append_left (List.getElem?_eq_some_iff.1 hv).1]
    exact hv
  · intro j v hv
    have := h (a.length + j) v (by rw [List.getElem?_append_right (by omega)]; simpa using hv)
    rwa [← Nat.add_assoc] at this

theorem soff_eq (us : List PV) (i : Nat) : soff (us.map shp) i = (((us.take i).map shp).map ssz).sum := by simp [soff, List.map_take]

/-- Units from i on, and where their cells lie. -/
theorem URs.at_ {c : Cx} {us : List PV} {cs : List Value} (hw : ∀ u ∈ us, wfU u = true) (h : URs c us cs) {w : World} {b o : Nat} (ha : At w b o cs) (i n : Nat) :
    ∃ ds, URs c ((us.drop i).take n) ds ∧ At w b (o + soff (us.map shp) i) ds ∧ ds.length = ((((us.drop i).take n).map shp).map ssz).sum := by
  have h0 : us = us.take i ++ us.drop i := (List.take_append_drop i us).symm
  rw [h0] at h
  obtain ⟨a, d, e, h1, h2⟩ := (URs_append _ _ _).1 h
  have h3 : us.drop i = (us.drop i).take n ++ (us.drop i).drop n := (List.take_append_drop n _).symm
  rw [h3] at h2
  obtain ⟨d1, d2, e', h4, h5⟩ := (URs_append _ _ _).1 h2
  subst e e'
  have hl : a.length = soff (us.map shp) i := by
    rw [soff_eq]
    exact URs.length _ _ (fun u hu => hw u (List.mem_of_mem_take hu)) h1
  have hat := ha.split.2.split.1
  rw [hl] at hat
  exact ⟨d1, h4, hat, URs.length _ _ (fun u hu => hw u (List.mem_of_mem_drop (List.mem_of_mem_take hu))) h4⟩

theorem Chain.at_ {α : Type} {R : α → List Value → Prop} {s : Nat} (hs : ∀ x cs, R x cs → cs.length = s) : ∀ (xs : List α) (cs : List Value) {w : World} {b o : Nat}, Chain R xs cs → At w b o cs →
    ∀ (j : Nat) (x : α), xs[j]? = some x → ∃ ds, R x ds ∧ At w b (o + j * s) ds
  | [], _, _, _, _, _, _, j, x, hx => by simp at hx
  | y :: ys, cs, w, b, o, ⟨p, q, e, hy, hr⟩, ha, j, x, hx => by
    subst e
    cases j with
    | zero =>
      simp at hx
      subst hx
      exact ⟨p, hy, by simpa using ha.split.1⟩
    | succ j =>
      simp at hx
      obtain ⟨ds, h1, h2⟩ := Chain.at_ hs ys q hr ha.split.2 j x hx
      refine ⟨ds, h1, ?_⟩
      rw [hs y p hy] at h2
      rwa [show o + (j + 1) * s = o + s + j * s by rw [Nat.succ_mul]; omega]

end Go.Fy

set_option linter.unusedVariables false
namespace Go.Fy
open Go.RowKit

def TkOk (shs : List (Option (Nat × Ty))) : Tk → TypeDesc → Prop
  | .bool, d => d = .bool
  | .int k, d => d = .int k
  | .str, d => d = .string
  | .ptr e, d => d = .pointer e
  | .sl e, d => d = .slice e
  | .arr n e, d => d = .array n e
  | .st fs, d => ∃ fields, d = .struct fields ∧ ∀ (f k off ft : Nat), fs[f]? = some (k, off, ft) → ∃ fld, fields[f]? = some fld ∧ fld.offset = off ∧ fld.type = ft ∧ soff shs k = off ∧ k ≤ shs.length
  | .fn, d => ∃ a b v, d = .func a b v
  | .ifc, d => ∃ m, d = .interface m
  | .map k e, d => d = .map k e
  | .tup, d => ∃ es, d = .tuple es
  | .other, _ => True

def Tk.agg : Tk → Bool
  | .st _ => true
  | .arr _ _ => true
  | _ => false

/-- A type's row of the evaluator's table is the program's. -/
structure TOk (P : Program) (E : Env) (t : Nat) (ti : TI) : Prop where
  und : ∃ d, P.underlying t = some d ∧ TkOk ti.shs ti.kind d
  inf : ∃ i z, P.info? t = some i ∧ i.size = ti.size ∧ i.bytes = ti.bytes ∧ i.zero = some z ∧ z = mkV ti.agg z.cells.toList ∧ (∀ c, URs c ti.zero z.cells.toList) ∧
    (∀ τ, ti.ty = some τ → ∀ w ok, DC w ok τ (dflt τ) z.cells.toList)
  sz : (ti.shs.map ssz).sum = ti.size
  zsh : ti.zero.map shp = ti.shs
  aggk : ti.kind.agg = ti.agg
  other : ti.kind ≠ .other
  one : ti.agg = false → ti.shs = [none]
  ty : ∀ τ, ti.ty = some τ → tsh τ = ti.shs ∧ τ.agg = ti.agg
  fsz : ∀ fs, ti.kind = .st fs → ∀ (f k off ft : Nat), fs[f]? = some (k, off, ft) → ∃ i, P.info? ft = some i ∧ i.size ≠ 0
  flen : ∀ fs fields, ti.kind = .st fs → P.underlying t = some (.struct fields) → fs.length = fields.size
  eqg : ∀ τ, ti.ty = some τ → P.eqGuardType P.depth t = false
  arr : ∀ n e, ti.kind = .arr n e → ∃ τ te, ti.shs = [some (n, τ)] ∧ E.tt e = some te ∧ te.ty = some τ

def OutR {res : List Ty} (w : World) (ok : Nat → Prop) (o : Out res) (e : Ending) : Prop := match o with
  | .ret x => ∃ v, e = .returned v ∧ (match res, x with
      | [t], x => DV w ok t x.1 v
      | ts, x => ∃ l, v = .tuple l.toArray ∧ DVs w ok ts x l)
  | .pan t τ x => ∃ v, e = .panicked [{ v := .iface t v, recovered := false }] ∧ DV w ok τ x v
where
  DVs (w : World) (ok : Nat → Prop) : (ts : List Ty) → DenL ts → List Value → Prop
    | [], _, l => l = []
    | t :: ts, x, l => ∃ v r, l = v :: r ∧ DV w ok t x.1 v ∧ DVs w ok ts x.2 r

/-- What the package's variables hold. -/
def GOk (E : Env) (w : World) (ok : Nat → Prop) : Prop := ∀ (g : Nat) (t : Ty) (x : t.den), E.glob g = some ⟨t, x⟩ → ok g ∧ ∃ cs, DC w ok t x cs ∧ At w g 0 cs

/-- A call does: by the function's body, or by the model's own row. -/
def Does (P : Program) (f : Nat) (vs : Array Value) (w : World) (R : Ending → World → Prop) : Prop :=
  ((∃ fn, P.funcs[f]? = some fn ∧ fn.name ≠ "runtime.NumGoroutine" ∧ fn.body.isSome = true) ∧ Calls P f vs w R) ∨ ∃ v w', (callFunc f vs).run P w = .ok (.value v) w' ∧ R (.returned v) w'

theorem Does.mono {P : Program} {f : Nat} {vs : Array Value} {w : World} {R R' : Ending → World → Prop} (h : Does P f vs w R) (hr : ∀ e w', R e w' → R' e w') : Does P f vs w R' := by
  rcases h with ⟨h1, h2⟩ | ⟨v, w', h1, h2⟩
  · exact .inl ⟨h1, h2.mono hr⟩
  · exact .inr ⟨v, w', h1, hr _ _ h2⟩

/-- A function's contract: whatever is ok of what was there, what it tells leads to that or to what is new; nothing that was there has turned. -/
def ConOk (P : Program) (E : Env) (f : Nat) (c : Con) : Prop :=
  ∀ (w : World) (ok : Nat → Prop) (xs : DenL c.args) (vs : List Value) (o : Out c.res), (∀ b, ok b → b < w.heap.size) → GOk E w ok → OutR.DVs w ok c.args xs vs → c.fn xs = some o →
    Does P f vs.toArray w fun e w' => OutR w' (fun b => ok b ∨ (w.heap.size ≤ b ∧ b < w'.heap.size)) o e ∧ Below w.heap.size w w'

structure EnvOk (P : Program) (E : Env) : Prop where
  tt : ∀ t ti, E.tt t = some ti → TOk P E t ti
  fn : ∀ f fn, E.fn f = some fn → P.funcs[f]? = some fn ∧ fn.name ≠ "runtime.NumGoroutine"
  con : ∀ f c, E.con f = some c → ConOk P E f c
  seq : ∀ (ty : Nat) (ti : TI) (τ : Ty), E.tt ty = some ti → ti.ty = some τ → noSl τ = true → ti.cmp = true → ∀ (w : World) (ok : Nat → Prop) (x y : τ.den) (vx vy : Value), DV w ok τ x vx → DV w ok τ y vy → (Op.equal ty vx vy).run P w = .ok (deq τ x y) w

theorem GOk.keeps {E : Env} {w w' : World} {ok ok' : Nat → Prop} (h : GOk E w ok) (k : Keeps w ok w' ok') : GOk E w' ok' := fun g t x hg => by
  obtain ⟨h1, cs, h2, h3⟩ := h g t x hg
  exact ⟨k.okk g h1, cs, DC.keeps k t x cs h2, h3.keeps k h1⟩

theorem rel_keeps {w0 : World} {c : Cx} (h : Rel w0 c) : Keeps w0 c.ok0 c.w c.ok :=
  ⟨fun b hb => .inl hb, fun b hb => h.below.block b (h.okl b hb)⟩

section
variable {P : Program} {E : Env} {t : Nat} {ti : TI}

theorem TOk.run_isAgg (h : TOk P E t ti) (w : World) : (isAgg t).run P w = .ok ti.agg w := by
  obtain ⟨d, hd, hk⟩ := h.und
  have ha := h.aggk
  have ho := h.other
  simp only [isAgg, Sem.run_bind, run_underlying hd, Result.andThen_ok]
  cases hkk : ti.kind <;> simp only [hkk] at hk ha ho <;> simp only [Tk.agg] at ha <;> rw [← ha]
  all_goals first
    | (simp only [TkOk] at hk; subst hk; rfl)
    | (simp only [TkOk] at hk; obtain ⟨fields, rfl, _⟩ := hk; rfl)
    | (simp only [TkOk] at hk; obtain ⟨_, _, _, rfl⟩ := hk; rfl)
    | (simp only [TkOk] at hk; obtain ⟨_, rfl⟩ := hk; rfl)
    | exact absurd rfl ho

theorem TOk.run_sizeOf (h : TOk P E t ti) (w : World) : (sizeOf t).run P w = .ok ti.size w := by
  obtain ⟨i, z, hi, hs, _⟩ := h.inf
  simp [sizeOf, typeInfo, hi, hs]

theorem add_zero_addr (b o j : Nat) : (⟨b, o, none⟩ : Addr).add j = ⟨b, o + j, none⟩ := by
  unfold Addr.add
  split
  · rename_i h; simp [h]
  · rfl

theorem valOf_sound {c : Cx} (h : TOk P E t ti) {us : List PV} {v : PV} {cs : List Value} (hw : ∀ u ∈ us, wfU u = true) (hv : valOf ti us = some v) (hu : URs c us cs) : VR c v (mkV ti.agg cs) := by
  unfold valOf at hv
  split at hv
  · rename_i hs
    cases ha : ti.agg with
    | true =>
      simp only [ha, cond_true] at hv
      have hag : VR c (.ag us) (mkV true cs) := by rw [VR]; exact ⟨cs, rfl, hu⟩
      cases hty : ti.ty with
      | none => simp only [hty] at hv; injection hv with hv; subst hv; exact hag
      | some τ =>
        simp only [hty] at hv
        split at hv
        · rename_i x hp
          injection hv with hv
          subst hv
          obtain ⟨a, b, e, hd, hr⟩ := pack_sound τ us x [] cs hp hu
          rw [URs] at hr
          subst hr
          rw [VR]
          refine ⟨cs, by rw [e, List.append_nil]; exact hd, ?_⟩
          rw [(h.ty τ hty).2, ha]
        · injection hv with hv; subst hv; exact hag
    | false =>
      simp only [ha, cond_false] at hv
      rw [h.one ha] at hs
      obtain ⟨u, rfl⟩ : ∃ u, us = [u] := by
        have := congrArg List.length hs
        rw [List.length_map] at this
        exact List.length_eq_one_iff.1 this
      · simp only [List.head?_cons, Option.some.injEq] at hv
        subst hv
        obtain ⟨p, q, e, hp, hq⟩ := URs_cons.1 hu
        rw [URs] at hq
        subst hq
        rw [List.append_nil] at e
        subst e
        have hwu := hw u (by simp)
        simp only [List.map_cons, List.map_nil, List.cons.injEq, and_true] at hs
        cases u with
        | d τ x =>
          rw [VR]
          refine ⟨cs, hp, ?_⟩
          have : τ.agg = false := by cases τ <;> simp_all [Ty.agg, wfU, shp]
          rw [this]
        | _ => obtain ⟨v, e, _, hv⟩ := hp; rw [e]; exact hv
  · exact absurd hv (by simp)

/-- A load, of cells that units tell. -/
theorem load_at {c : Cx} (h : TOk P E t ti) {us : List PV} {v : PV} {cs : List Value} {b o : Nat} (hw : ∀ u ∈ us, wfU u = true) (hv : valOf ti us = some v) (hu : URs c us cs) (ha : At c.w b o cs) :
    (Instr.loadAt t (.pointer (some ⟨b, o, none⟩))).run P c.w = .ok (mkV ti.agg cs) c.w := by
  have hs : us.map shp = ti.shs := by
    unfold valOf at hv
    split at hv
    · assumption
    · exact absurd hv (by simp)
  have hl : cs.length = ti.size := by rw [URs.length us cs hw hu, hs, h.sz]
  have hc : ∀ j v, cs[j]? = some v → c.w.cell? ((⟨b, o, none⟩ : Addr).add j) = some v := fun j v hj => by rw [add_zero_addr]; exact ha j v hj
  simp only [Instr.loadAt, Instr.sureAddr, Sem.run_bind, Sem.run_pure, Result.andThen_ok, loadVar, h.run_isAgg]
  cases hag : ti.agg with
  | true =>
    simp only [if_true, Sem.run_bind, h.run_sizeOf, Result.andThen_ok]
    rw [← hl, run_loadCells_list (P := P) c.w ⟨b, o, none⟩ cs hc]
    rfl
  | false =>
    have h1 := h.one hag
    have : ti.size = 1 := by rw [← h.sz, h1]; rfl
    rw [this] at hl
    match cs, hl with
    | [x], _ =>
      have := hc 0 x rfl
      simp only [Addr.add, if_true] at this
      simp [load, Sem.run, this, mkV]

theorem getD_some {α : Type} {l : List α} {j : Nat} {d x : α} (h : l[j]? = some x) : l.getD j d = x := by simp [List.getD_eq_getElem?_getD, h]

theorem loadA_sound {w0 : World} {c : Cx} {ρ : Type} {K : PV → Option ρ} {r : ρ} {p : PV} {pv : Value} (h : TOk P E t ti) (hr : Rel w0 c) (hp : VR c p pv) (he : loadA c.H ti p K = some r) :
    ∃ v val, K v = some r ∧ VR c v val ∧ (Instr.loadAt t pv).run P c.w = .ok val c.w := by
  have fin : ∀ (us : List PV) (cs : List Value) (b o : Nat), (∀ u ∈ us, wfU u = true) → URs c us cs → At c.w b o cs → pv = .pointer (some ⟨b, o, none⟩) →
      (match valOf ti us with | some v => K v | none => none) = some r → ∃ v val, K v = some r ∧ VR c v val ∧ (Instr.loadAt t pv).run P c.w = .ok val c.w := by
    intro us cs b o hw hu ha hpv hk
    split at hk
    · rename_i v hv
      subst hpv
      exact ⟨v, _, hk, valOf_sound h hw hv hu, load_at h hw hv hu ha⟩
    · exact absurd hk (by simp)
  have elem : ∀ (τ : Ty) (x : τ.den) (q b o : Nat) (cs : List Value), DC c.w c.ok τ x cs → At c.w b o cs → pv = .pointer (some ⟨b, o + soff (tsh τ) q, none⟩) →
      (match valOf ti (((units τ x).drop q).take ti.shs.length) with | some v => K v | none => none) = some r → ∃ v val, K v = some r ∧ VR c v val ∧ (Instr.loadAt t pv).run P c.w = .ok val c.w := by
    intro τ x q b o cs hd ha hpv hk
    have hw := units_wf τ x
    obtain ⟨ds, h1, h2, _⟩ := URs.at_ hw (units_URs τ x cs hd) ha q ti.shs.length
    rw [units_shp] at h2
    exact fin _ ds b _ (fun u hu => hw u (List.mem_of_mem_drop (List.mem_of_mem_take hu))) h1 h2 hpv hk
  unfold loadA at he
  cases p with
  | pt b i =>
    rw [VR] at hp
    simp only at he
    split at he
    · rename_i us hb
      obtain ⟨hi, hpv⟩ := hp.2.2 us hb
      obtain ⟨cs, e, hh, hu, hw⟩ := hr.blk b _ hb
      have ha : At c.w (c.bs.getD b 0) 0 cs := fun j v hv => by
        rw [Nat.zero_add, cell_of_row c.w _ j cs.toArray e (0, 0) hh]
        simpa using hv
      obtain ⟨ds, h1, h2, _⟩ := URs.at_ hw hu ha i ti.shs.length
      exact fin _ ds _ _ (fun u hu => hw u (List.mem_of_mem_drop (List.mem_of_mem_take hu))) h1 h2 (by rw [hpv, Nat.zero_add]) he
    · exact absurd he (by simp)
  | pe b i ver j q =>
    rw [VR] at hp
    simp only at he
    split at he
    · rename_i us hb
      obtain ⟨n, τ, hsh, hj, hpv⟩ := hp.2.2.1 us hb
      obtain ⟨cs, e, hh, hu, hw⟩ := hr.blk b _ hb
      split at he
      · rename_i m τ' xs hui
        have hs' : (us.map shp)[i]? = some (shp (.d (.arr m τ') xs)) := by rw [List.getElem?_map, hui]; rfl
        rw [hsh] at hs'
        simp only [shp, Option.some.injEq, Prod.mk.injEq] at hs'
        obtain ⟨rfl, rfl⟩ := hs'
        have ha : At c.w (c.bs.getD b 0) 0 cs := fun j v hv => by
          rw [Nat.zero_add, cell_of_row c.w _ j cs.toArray e (0, 0) hh]
          simpa using hv
        obtain ⟨ds, h1, h2, _⟩ := URs.at_ hw hu ha i 1
        have hdt : (us.drop i).take 1 = [.d (.arr n τ) xs] := by
          have hlt := (List.getElem?_eq_some_iff.1 hui).1
          rw [List.drop_eq_getElem_cons hlt, List.take_succ_cons, List.take_zero]
          rw [(List.getElem?_eq_some_iff.1 hui).2]
        rw [hdt] at h1
        obtain ⟨p1, p2, e1, hd, hn⟩ := URs_cons.1 h1
        rw [URs] at hn
        subst hn
        rw [List.append_nil] at e1
        subst e1
        obtain ⟨hlen, hch⟩ := hd
        have hjx : xs[j]? = some xs[j] := List.getElem?_eq_getElem (by omega)
        obtain ⟨es, d1, d2⟩ := Chain.at_ (fun x cs => DC.length τ x cs) xs ds hch h2 j _ hjx
        rw [getD_some hjx] at he
        exact elem τ _ q _ _ es d1 d2 (by rw [hpv]; simp) he
      · exact absurd he (by simp)
    · rename_i e τ xs u hb
      split at he
      · rename_i hver
        subst hver
        obtain ⟨_, hk⟩ := hp.2.2.2 e τ xs ver hb
        obtain ⟨hj, hpv⟩ := hk rfl
        obtain ⟨cs, rest, hh, hch, _⟩ := hr.blk b _ hb
        have ha : At c.w (c.bs.getD b 0) 0 cs := fun j v hv => by
          rw [Nat.zero_add, cell_of_row c.w _ j _ e (0, 0) hh]
          simp only [List.getElem?_toArray]
          rw [List.getElem?_append_left (List.getElem?_eq_some_iff.1 hv).1]
          exact hv
        have hjx : xs[j]? = some xs[j] := List.getElem?_eq_getElem hj
        obtain ⟨es, d1, d2⟩ := Chain.at_ (fun x cs => DC.length τ x cs) xs cs hch ha j _ hjx
        rw [getD_some hjx] at he
        exact elem τ _ q _ _ es d1 d2 (by rw [hpv]; simp) he
      · exact absurd he (by simp)
    · exact absurd he (by simp)
  | ce τ x q =>
    rw [VR] at hp
    simp only at he
    obtain ⟨b, off, cs, hpv, _, hd, ha⟩ := hp
    exact elem τ x q b off cs hd ha hpv he
  | _ => exact absurd he (by simp)

end
end Go.Fy

set_option linter.unusedVariables false
namespace Go.Fy
open Go.RowKit

/-! ### Splices -/
theorem splice_left {α : Type} (a b v : List α) (o : Nat) (h : o + v.length ≤ a.length) : splice (a ++ b) o v = splice a o v ++ b := by
  unfold splice
  rw [List.take_append_of_le_length (by omega), List.drop_append_of_le_length (by omega)]
  simp

theorem splice_right {α : Type} (a b v : List α) (o : Nat) : splice (a ++ b) (a.length + o) v = a ++ splice b o v := by
  unfold splice
  rw [List.take_length_add_append, show a.length + o + v.length = a.length + (o + v.length) by omega, List.drop_length_add_append]
  simp

theorem splice_whole {α : Type} (a v b : List α) (h : v.length = a.length) : splice (a ++ b) 0 v = v ++ b := by
  unfold splice
  simp [h]

theorem URs_splice {c : Cx} {us vs : List PV} {cs vc : List Value} {i : Nat} (hw : ∀ u ∈ us, wfU u = true) (hu : URs c us cs) (hs : ((us.drop i).take vs.length).map shp = vs.map shp)
    (hwv : ∀ u ∈ vs, wfU u = true) (hv : URs c vs vc) : URs c (splice us i vs) (splice cs (soff (us.map shp) i) vc) ∧ soff (us.map shp) i + vc.length ≤ cs.length := by
  have h0 : us = us.take i ++ us.drop i := (List.take_append_drop i us).symm
  have h3 : us.drop i = (us.drop i).take vs.length ++ (us.drop i).drop vs.length := (List.take_append_drop _ _).symm
  rw [h0] at hu
  obtain ⟨a, d, e, h1, h2⟩ := (URs_append _ _ _).1 hu
  rw [h3] at h2
  obtain ⟨d1, d2, e', h4, h5⟩ := (URs_append _ _ _).1 h2
  subst e e'
  have hl : a.length = soff (us.map shp) i := by
    rw [soff_eq]
    exact URs.length _ _ (fun u hu => hw u (List.mem_of_mem_take hu)) h1
  have hd1 : vc.length = d1.length := by
    rw [URs.length vs vc hwv hv, URs.length _ d1 (fun u hu => hw u (List.mem_of_mem_drop (List.mem_of_mem_take hu))) h4, hs]
  constructor
  · rw [← hl]
    have := splice_right a (d1 ++ d2) vc 0
    rw [Nat.add_zero] at this
    rw [this, splice_whole d1 vc d2 hd1]
    have hsp : splice us i vs = us.take i ++ (vs ++ (us.drop i).drop vs.length) := by
      unfold splice
      rw [List.append_assoc, List.drop_drop]
    rw [hsp]
    exact (URs_append _ _ _).2 ⟨a, _, rfl, h1, (URs_append _ _ _).2 ⟨vc, d2, rfl, hv, h5⟩⟩
  · simp only [List.length_append]
    omega

theorem splice_shp {us vs : List PV} {i : Nat} (hs : ((us.drop i).take vs.length).map shp = vs.map shp) : (splice us i vs).map shp = us.map shp := by
  have h0 : us = us.take i ++ ((us.drop i).take vs.length ++ (us.drop i).drop vs.length) := by rw [List.take_append_drop, List.take_append_drop]
  unfold splice
  rw [List.map_append, List.map_append, ← hs]
  conv => rhs; rw [h0]
  simp [List.drop_drop]

theorem splice_mem {α : Type} {l m : List α} {i : Nat} {x : α} (h : x ∈ splice l i m) : x ∈ l ∨ x ∈ m := by
  unfold splice at h
  simp only [List.mem_append] at h
  rcases h with (h | h) | h
  · exact .inl (List.mem_of_mem_take h)
  · exact .inr h
  · exact .inl (List.mem_of_mem_drop h)

theorem Chain_splice {α : Type} {R : α → List Value → Prop} {s : Nat} (hs : ∀ x cs, R x cs → cs.length = s) : ∀ (xs : List α) (cs : List Value) (j k : Nat) (v : List Value) (y : α), Chain R xs cs → j < xs.length →
    (∀ es x, xs[j]? = some x → R x es → k + v.length ≤ es.length ∧ R y (splice es k v)) → Chain R (xs.set j y) (splice cs (j * s + k) v) ∧ j * s + k + v.length ≤ cs.length
  | [], _, j, _, _, _, _, hj, _ => by simp at hj
  | x :: xs, cs, 0, k, v, y, ⟨a, b, e, hx, hr⟩, _, h => by
    subst e
    obtain ⟨h1, h2⟩ := h a x rfl hx
    rw [Nat.zero_mul, Nat.zero_add, splice_left a b v k h1]
    exact ⟨⟨splice a k v, b, rfl, h2, hr⟩, by simp only [List.length_append]; omega⟩
  | x :: xs, cs, j + 1, k, v, y, ⟨a, b, e, hx, hr⟩, hj, h => by
    subst e
    have ha := hs x a hx
    obtain ⟨h1, h2⟩ := Chain_splice hs xs b j k v y hr (by simpa using hj) (fun es x' hx' => h es x' (by simpa using hx'))
    have e : (j + 1) * s + k = a.length + (j * s + k) := by rw [Nat.succ_mul, ha]; omega
    rw [e, splice_right]
    exact ⟨⟨a, _, rfl, hx, h1⟩, by simp only [List.length_append]; omega⟩

section
variable {P : Program} {E : Env} {t : Nat} {ti : TI} {c : Cx}

theorem DV_cells {w : World} {ok : Nat → Prop} {τ : Ty} {x : τ.den} {v : Value} (h : DV w ok τ x v) : DC w ok τ x v.cells.toList ∧ (∀ y ∈ v.cells.toList, One y) := by
  obtain ⟨cs, hd, e⟩ := h
  have h1 := DC.one τ x cs hd
  subst e
  cases ha : τ.agg with
  | true => exact ⟨by simpa [mkV, Value.cells] using hd, by simpa [mkV, Value.cells] using h1⟩
  | false =>
    obtain ⟨v, rfl, ho⟩ := DC.leaf ha hd
    have : (mkV false [v]).cells = #[v] := by
      show v.cells = #[v]
      cases v <;> simp_all [One, Value.oneCell', Value.cells]
    rw [this]
    exact ⟨hd, by simpa using ho⟩

theorem one_cells {v : Value} (h : One v) : v.cells.toList = [v] := by
  cases v <;> simp_all [One, Value.oneCell', Value.cells]

theorem VR_one {p : PV} {v : Value} (hw : wfU p = true) (hk : known p = true) (hd : ∀ t x, p ≠ .d t x) (h : VR c p v) : One v := by
  cases p with
  | un => simp [known] at hk
  | d t x => exact absurd rfl (hd t x)
  | ag us => simp [wfU] at hw
  | tu us => simp [wfU] at hw
  | pt b i => rw [VR] at h; obtain ⟨a, e⟩ := h.1; subst e; rfl
  | pe b i ver j q => rw [VR] at h; obtain ⟨a, e⟩ := h.1; subst e; rfl
  | ce t x q => rw [VR] at h; obtain ⟨b, off, cs, e, _⟩ := h; subst e; rfl
  | ro b ver off len => rw [VR] at h; obtain ⟨a, l, k, e⟩ := h.1; subst e; rfl
  | ar b i off len => rw [VR] at h; obtain ⟨a, l, k, e⟩ := h.1; subst e; rfl
  | fn f caps => rw [VR] at h; obtain ⟨l, e, _⟩ := h; subst e; rfl
  | yl l => rw [VR] at h; obtain ⟨a, e⟩ := h.1; subst e; rfl
  | ic t p => rw [VR] at h; obtain ⟨l, e, _⟩ := h; subst e; rfl
  | mp b => rw [VR] at h; obtain ⟨a, e⟩ := h.1; subst e; rfl
  | it b => rw [VR] at h; obtain ⟨a, e⟩ := h.1; subst e; rfl
  | _ => rw [VR] at h; subst h; rfl

theorem unitsOf_sound (h : TOk P E t ti) {v : PV} {vv : Value} {vs : List PV} (hu : unitsOf ti v = some vs) (hk : vs.all known = true) (hv : VR c v vv) :
    URs c vs vv.cells.toList ∧ vs.map shp = ti.shs ∧ (∀ u ∈ vs, wfU u = true) ∧ (∀ y ∈ vv.cells.toList, One y) := by
  have all1 : ∀ (us : List PV) (cs : List Value), (∀ u ∈ us, wfU u = true) → (∀ u ∈ us, known u = true) → URs c us cs → ∀ y ∈ cs, One y := by
    intro us
    induction us with
    | nil => intro cs _ _ h; rw [URs] at h; subst h; simp
    | cons u us ih =>
      intro cs hw hk h y hy
      obtain ⟨a, b, e, hp, hr⟩ := URs_cons.1 h
      subst e
      rw [List.mem_append] at hy
      rcases hy with hy | hy
      · cases u with
        | d t x => exact DC.one t x a hp y hy
        | _ => obtain ⟨z, e, ho, _⟩ := hp; subst e; simp at hy; subst hy; exact ho
      · exact ih b (fun x hx => hw x (by simp [hx])) (fun x hx => hk x (by simp [hx])) hr y hy
  unfold unitsOf at hu
  split at hu
  · rename_i hc
    injection hu with hu
    obtain ⟨hs, hw⟩ := hc
    rw [hu] at hs hw
    have hw' : ∀ u ∈ vs, wfU u = true := by simpa [List.all_eq_true] using hw
    have hk' : ∀ u ∈ vs, known u = true := by simpa [List.all_eq_true] using hk
    have hmain : URs c vs vv.cells.toList := by
      cases v with
      | d τ x =>
        rw [VR] at hv
        obtain ⟨h1, h2⟩ := DV_cells hv
        cases hag : ti.agg with
        | true => simp only [usOf, hag, cond_true] at hu; subst hu; exact units_URs τ x _ h1
        | false => simp only [usOf, hag, cond_false] at hu; subst hu; exact URs_cons.2 ⟨_, [], by simp, h1, by rw [URs]⟩
      | ag us =>
        rw [VR] at hv
        obtain ⟨cs, e, hc⟩ := hv
        simp only [usOf] at hu
        subst hu e
        simpa [Value.cells] using hc
      | _ =>
        simp only [usOf] at hu
        subst hu
        have ho := VR_one (hw' _ (by simp)) (hk' _ (by simp)) (by simp) hv
        rw [one_cells ho]
        exact URs_cons.2 ⟨[vv], [], rfl, ⟨vv, rfl, ho, hv⟩, by rw [URs]⟩
    exact ⟨hmain, hs, hw', all1 vs _ hw' hk' hmain⟩
  · exact absurd hu (by simp)

theorem run_storeVar (h : TOk P E t ti) {w : World} {v : Value} {g o : Nat} {cur : List Value} {e : TypeId} (hh : w.heap[g]? = some (.cells cur.toArray e (0, 0))) (hl : v.cells.toList.length = ti.size)
    (h1 : ∀ y ∈ v.cells.toList, One y) (hr : o + v.cells.toList.length ≤ cur.length) :
    (Instr.storeAt t (.pointer (some ⟨g, o, none⟩)) v).run P w = .ok () (w.setRow g (splice cur o v.cells.toList).toArray) := by
  have hst := run_storeCells_at P g o e v.cells.toList 0 cur.toArray w hh (by simpa using hr) h1
  simp only [Nat.add_zero] at hst
  have hz : v.cells.size = ti.size := by simpa using hl
  simp only [Instr.storeAt, Instr.sureAddr, Sem.run_bind, Sem.run_pure, Result.andThen_ok, storeVar, h.run_sizeOf]
  rw [if_neg (by simpa using hz)]
  exact hst

theorem turns_setRow {w0 : World} (hr : Rel w0 c) {i : Nat} {x y : Blk} (hi : c.H[i]? = some y) (hy : y ≠ .dead) (cs : Array Value) : Turns c i x (c.w.setRow (c.bs.getD i 0) cs) :=
  ⟨below_setRow (Below.refl _ _) (hr.rng i ⟨y, hi, hy⟩).1 cs, size_setRow _ _ _, fun b hb => setRow_other _ _ _ _ hb⟩

/-- An element's datum with some units laid anew. -/
theorem setU_sound {τ : Ty} {x y : τ.den} {q : Nat} {vs : List PV} {cs vc : List Value} (hs : ((tsh τ).drop q).take vs.length = vs.map shp) (hy : setU τ x q vs = some y) (hd : DC c.w c.ok τ x cs)
    (hw : ∀ u ∈ vs, wfU u = true) (hv : URs c vs vc) : soff (tsh τ) q + vc.length ≤ cs.length ∧ DC c.w c.ok τ y (splice cs (soff (tsh τ) q) vc) := by
  have hu := units_URs τ x cs hd
  have hs' : (((units τ x).drop q).take vs.length).map shp = vs.map shp := by rw [List.map_take, List.map_drop, units_shp]; exact hs
  obtain ⟨h1, h2⟩ := URs_splice (units_wf τ x) hu hs' hw hv
  rw [units_shp] at h1 h2
  refine ⟨h2, ?_⟩
  unfold setU at hy
  split at hy
  · rename_i z hz
    injection hy with hy
    subst hy
    obtain ⟨a, b, e, hd', hn⟩ := pack_sound τ _ z [] _ hz h1
    rw [URs] at hn
    subst hn
    rw [e, List.append_nil]
    exact hd'
  · exact absurd hy (by simp)

theorem storeA_sound {w0 : World} {p v : PV} {pv vv : Value} {h' : List Blk} {b : Nat} (h : TOk P E t ti) (hr : Rel w0 c) (hp : VR c p pv) (hv : VR c v vv) (he : storeA c.H ti p v = some (h', b)) :
    ∃ c', (Instr.storeAt t pv vv).run P c.w = .ok () c'.w ∧ Rel w0 c' ∧ Ext c c' ∧ c'.H = h' ∧ c'.ok0 = c.ok0 := by
  unfold storeA at he
  split at he
  · exact absurd he (by simp)
  · rename_i vs hvs
    cases hk : vs.all known with
    | false => simp [hk] at he
    | true =>
    simp only [hk, cond_true] at he
    obtain ⟨hu, hsh, hw, h1⟩ := unitsOf_sound h hvs hk hv
    have hlen : vv.cells.toList.length = ti.size := by rw [URs.length vs _ hw hu, hsh, h.sz]
    -- what follows a store into block i
    have fin : ∀ (i o : Nat) (x y : Blk) (cur : List Value) (e : TypeId), c.H[i]? = some y → y ≠ .dead → x ≠ .dead → c.w.heap[c.bs.getD i 0]? = some (.cells cur.toArray e (0, 0)) → o + vv.cells.toList.length ≤ cur.length →
        (∀ c', c' = c.turn i x (c.w.setRow (c.bs.getD i 0) (splice cur o vv.cells.toList).toArray) → Goes c c' i y x) →
        (∀ c', c' = c.turn i x (c.w.setRow (c.bs.getD i 0) (splice cur o vv.cells.toList).toArray) → Ext c c' → c'.w.heap[c'.bs.getD i 0]? = some (.cells (splice cur o vv.cells.toList).toArray e (0, 0)) → BR c' i x) →
        pv = .pointer (some ⟨c.bs.getD i 0, o, none⟩) → ∃ c', (Instr.storeAt t pv vv).run P c.w = .ok () c'.w ∧ Rel w0 c' ∧ Ext c c' ∧ c'.H = c.H.set i x ∧ c'.ok0 = c.ok0 := by
      intro i o x y cur e hi hy hx hh hrng hg hb hpv
      have ht := turns_setRow (x := x) hr hi hy (splice cur o vv.cells.toList).toArray
      have hg' := hg _ rfl
      have hext := turn_ext hr hi hy hx ht hg'
      refine ⟨c.turn i x (c.w.setRow (c.bs.getD i 0) (splice cur o vv.cells.toList).toArray), ?_, turn_rel hr hi hy hx ht hg' (hb _ rfl hext (setRow_heap _ _ _ _ _ _ hh)), hext, rfl, rfl⟩
      rw [hpv]
      exact run_storeVar h (o := o) hh hlen h1 hrng
    cases p with
    | pt b i =>
      rw [VR] at hp
      simp only at he
      split at he
      · rename_i us hb
        split at he
        · rename_i hs
          simp only [Option.some.injEq, Prod.mk.injEq] at he
          obtain ⟨rfl, rfl⟩ := he
          obtain ⟨hi, hpv⟩ := hp.2.2 us hb
          obtain ⟨cs, e, hh, hus, hwu⟩ := hr.blk b _ hb
          have hs' : ((us.drop i).take vs.length).map shp = vs.map shp := by rw [hs, hsh]
          have hsp := URs_splice hwu hus hs' hw hu
          refine fin b _ (.cells (splice us i vs)) (.cells us) cs e hb (by simp) (by simp) hh hsp.2 ?_ ?_ hpv
          · rintro c' rfl
            exact ⟨splice_shp hs', rfl⟩
          · intro c' _ hext hh'
            refine ⟨_, e, hh', (URs_splice hwu (URs.ext hext us cs hus) hs' hw (URs.ext hext vs _ hu)).1, ?_⟩
            intro u hu'
            rcases splice_mem hu' with hu' | hu'
            · exact hwu u hu'
            · exact hw u hu'
        · exact absurd he (by simp)
      · exact absurd he (by simp)
    | pe b i ver j q =>
      rw [VR] at hp
      simp only at he
      split at he
      · rename_i us hb
        obtain ⟨n, τ, hsh', hj, hpv⟩ := hp.2.2.1 us hb
        obtain ⟨cs, e, hh, hus, hwu⟩ := hr.blk b _ hb
        split at he
        · rename_i m τ' xs hui
          have hs' : (us.map shp)[i]? = some (shp (.d (.arr m τ') xs)) := by rw [List.getElem?_map, hui]; rfl
          rw [hsh'] at hs'
          simp only [shp, Option.some.injEq, Prod.mk.injEq] at hs'
          obtain ⟨rfl, rfl⟩ := hs'
          split at he
          · rename_i hss
            split at he
            · rename_i y hy
              simp only [Option.some.injEq, Prod.mk.injEq] at he
              obtain ⟨rfl, rfl⟩ := he
              have hlt := (List.getElem?_eq_some_iff.1 hui).1
              have hdt : (us.drop i).take 1 = [.d (.arr n τ) xs] := by
                rw [List.drop_eq_getElem_cons hlt, List.take_succ_cons, List.take_zero]
                rw [(List.getElem?_eq_some_iff.1 hui).2]
              -- the unit's own cells
              have key : ∀ (c' : Cx) (cs : List Value), Ext c c' → URs c' us cs → URs c' vs vv.cells.toList → (∀ x (es : List Value), DC c'.w c'.ok τ x es → es.length = τ.sz) →
                  (∀ es, DC c'.w c'.ok τ (xs.getD j (dflt τ)) es → soff (tsh τ) q + vv.cells.toList.length ≤ es.length ∧ DC c'.w c'.ok τ y (splice es (soff (tsh τ) q) vv.cells.toList)) →
                  URs c' (us.set i (.d (.arr n τ) (xs.set j y))) (splice cs (soff (us.map shp) i + j * τ.sz + soff (tsh τ) q) vv.cells.toList) ∧ soff (us.map shp) i + j * τ.sz + soff (tsh τ) q + vv.cells.toList.length ≤ cs.length := by
                intro c' cs hext hus _ hlen' hel
                have h0 : us = us.take i ++ ([.d (.arr n τ) xs] ++ us.drop (i + 1)) := by
                  rw [← hdt, ← List.drop_drop, List.take_append_drop, List.take_append_drop]
                rw [h0] at hus
                obtain ⟨a, d, ee, g1, g2⟩ := (URs_append _ _ _).1 hus
                obtain ⟨d1, d2, ee', g3, g4⟩ := (URs_append _ _ _).1 g2
                subst ee ee'
                obtain ⟨p1, p2, e1, hd, hn⟩ := URs_cons.1 g3
                rw [URs] at hn
                subst hn
                rw [List.append_nil] at e1
                subst e1
                obtain ⟨hl1, hch⟩ := hd
                have hal : a.length = soff (us.map shp) i := by
                  rw [soff_eq]
                  exact URs.length _ _ (fun u hu => hwu u (List.mem_of_mem_take hu)) g1
                obtain ⟨k1, k2⟩ := Chain_splice hlen' xs d1 j (soff (tsh τ) q) vv.cells.toList y hch (by omega) (fun es x hx hd => by
                  rw [getD_some hx] at hel
                  exact hel es hd)
                have hset : us.set i (.d (.arr n τ) (xs.set j y)) = us.take i ++ ([.d (.arr n τ) (xs.set j y)] ++ us.drop (i + 1)) := by
                  rw [List.set_eq_take_append_cons_drop, if_pos hlt]
                  rfl
                rw [hset, ← hal, Nat.add_assoc, splice_right, splice_left d1 d2 vv.cells.toList _ k2]
                refine ⟨(URs_append _ _ _).2 ⟨a, _, rfl, g1, (URs_append _ _ _).2 ⟨_, d2, rfl, URs_cons.2 ⟨_, [], by simp, ⟨by rw [List.length_set]; exact hl1, k1⟩, by rw [URs]⟩, g4⟩⟩, ?_⟩
                simp only [List.length_append]
                omega
              have hss' : ((tsh τ).drop q).take vs.length = vs.map shp := by rw [hss, hsh]
              have kc := key c cs (Ext.refl c) hus hu (fun x es hd => DC.length τ x es hd) (fun es hd => setU_sound hss' hy hd hw hu)
              have hss2 : (us.set i (PV.d (.arr n τ) (xs.set j y))).map shp = us.map shp := by
                apply List.ext_getElem?
                intro k
                rw [List.getElem?_map, List.getElem?_map]
                by_cases hik : i = k
                · subst hik
                  rw [List.getElem?_set_self hlt, hui]
                  rfl
                · rw [List.getElem?_set_ne hik]
              refine fin b _ (.cells (us.set i (.d (.arr n τ) (xs.set j y)))) (.cells us) cs e hb (by simp) (by simp) hh kc.2 ?_ ?_ hpv
              · rintro c' rfl
                exact ⟨hss2, rfl⟩
              · intro c' _ hext hh'
                refine ⟨_, e, hh', (key c' cs hext (URs.ext hext us cs hus) (URs.ext hext vs _ hu) (fun x es hd => DC.length τ x es hd) (fun es hd => setU_sound hss' hy hd hw (URs.ext hext vs _ hu))).1, ?_⟩
                intro u hu'
                rcases List.mem_or_eq_of_mem_set hu' with hu' | rfl
                · exact hwu u hu'
                · rfl
            · exact absurd he (by simp)
          · exact absurd he (by simp)
        · exact absurd he (by simp)
      · rename_i e τ xs u hb
        split at he
        · rename_i hver
          subst hver
          split at he
          · rename_i hss
            split at he
            · rename_i y hy
              simp only [Option.some.injEq, Prod.mk.injEq] at he
              obtain ⟨rfl, rfl⟩ := he
              obtain ⟨_, hk2⟩ := hp.2.2.2 e τ xs ver hb
              obtain ⟨hj, hpv⟩ := hk2 rfl
              obtain ⟨cs, rest, hh, hch, hpos, hcap, hle, hmx⟩ := hr.blk b _ hb
              have hss' : ((tsh τ).drop q).take vs.length = vs.map shp := by rw [hss, hsh]
              have key : ∀ (c' : Cx), Chain (DC c'.w c'.ok τ) xs cs → URs c' vs vv.cells.toList → Chain (DC c'.w c'.ok τ) (xs.set j y) (splice cs (j * τ.sz + soff (tsh τ) q) vv.cells.toList) ∧ j * τ.sz + soff (tsh τ) q + vv.cells.toList.length ≤ cs.length := by
                intro c' hch' hu'
                refine Chain_splice (fun x es hd => DC.length τ x es hd) xs cs j _ _ y hch' hj (fun es x hx hd => ?_)
                rw [getD_some hx] at hy
                exact setU_sound hss' hy hd hw hu'
              have kc := key c hch hu
              refine fin b _ (.row e τ (xs.set j y) ver) (.row e τ xs ver) (cs ++ rest) e hb (by simp) (by simp) hh (by rw [List.length_append]; have := kc.2; omega) ?_ ?_ hpv
              · rintro c' rfl
                exact ⟨Nat.le_refl _, fun _ => ⟨rfl, by simp, rfl, rfl⟩⟩
              · intro c' hc' hext hh'
                have hcaps : c'.caps = c.caps := by rw [hc']; rfl
                rw [splice_left cs rest _ _ kc.2] at hh'
                have hk' := key c' (Chain.mono (fun x cs => DC.keeps hext.keeps τ x cs) xs cs hch) (URs.ext hext vs _ hu)
                have hls : (splice cs (j * τ.sz + soff (tsh τ) q) vv.cells.toList).length = cs.length := by
                  have h1 := Chain.length (fun x es hd => DC.length τ x es hd) _ _ hk'.1
                  have h2 := Chain.length (fun x es hd => DC.length τ x es hd) _ _ hch
                  rw [h1, h2, List.length_set]
                refine ⟨_, rest, hh', hk'.1, hpos, ?_, by rw [List.length_set, hcaps]; exact hle, by rw [hcaps]; exact hmx⟩
                rw [List.length_append, hls, hcaps, ← List.length_append]
                exact hcap
            · exact absurd he (by simp)
          · exact absurd he (by simp)
        · exact absurd he (by simp)
      · exact absurd he (by simp)
    | _ => exact absurd he (by simp)

end
end Go.Fy

set_option linter.unusedVariables false
namespace Go.Fy
open Go.RowKit

/-- The temporaries. -/
def TS (c : Cx) (ts : List PV) (tm : Array Value) : Prop := ts.length = tm.size ∧ ∀ i, VR c (ts.getD i .un) (tm.getD i undef)

theorem TS.ext {c c' : Cx} (h : Ext c c') {ts : List PV} {tm : Array Value} (ht : TS c ts tm) : TS c' ts tm := ⟨ht.1, fun i => VR.ext h _ _ (ht.2 i)⟩

theorem TS.put {c : Cx} {ts : List PV} {a : Act} {p : PV} {v : Value} (ht : TS c ts a.tmps) (d : Option Tmp) (hv : VR c p v) : TS c (putT ts d p) (a.put d v).tmps := by
  cases d with
  | none => exact ht
  | some d =>
    refine ⟨by simp [putT, Act.put, ht.1], fun i => ?_⟩
    simp only [putT, Act.put, List.getD_eq_getElem?_getD, Array.getD_eq_getD_getElem?]
    by_cases e : d = i
    · subst e
      by_cases hd : d < ts.length
      · rw [List.getElem?_set_self hd, Array.getElem?_setIfInBounds_self_of_lt (by rw [← ht.1]; exact hd)]
        exact hv
      · have h1 : ts.set d p = ts := List.set_eq_of_length_le (Nat.le_of_not_lt hd)
        have h2 : a.tmps.setIfInBounds d v = a.tmps := Array.setIfInBounds_eq_of_size_le (by rw [← ht.1]; exact Nat.le_of_not_lt hd)
        rw [h1, h2]
        have := ht.2 d
        simpa [List.getD_eq_getElem?_getD, Array.getD_eq_getD_getElem?] using this
    · rw [List.getElem?_set_ne e, Array.getElem?_setIfInBounds_ne e]
      have := ht.2 i
      simpa [List.getD_eq_getElem?_getD, Array.getD_eq_getD_getElem?] using this

theorem dV {c : Cx} {t : Ty} {x : t.den} {v : Value} (h : DV c.w c.ok t x v) : VR c (.d t x) v := by rw [VR]; exact h
theorem dBool {w : World} {ok : Nat → Prop} (b : Bool) : DV w ok .bool b (.bool b) := ⟨[.bool b], rfl, rfl⟩
theorem dInt {w : World} {ok : Nat → Prop} (k : IntKind) (n : Int) : DV w ok (.int k) n (.int k n) := ⟨[.int k n], rfl, rfl⟩
theorem dStr {w : World} {ok : Nat → Prop} (s : List UInt8) : DV w ok .str s (.string ⟨s.toArray⟩) := ⟨[.string ⟨s.toArray⟩], rfl, rfl⟩
theorem dBool_inv {w : World} {ok : Nat → Prop} {b : Bool} {v : Value} (h : DV w ok .bool b v) : v = .bool b := by obtain ⟨cs, h1, h2⟩ := h; rw [h2, show cs = _ from h1]; rfl
theorem dInt_inv {w : World} {ok : Nat → Prop} {k : IntKind} {b : Int} {v : Value} (h : DV w ok (.int k) b v) : v = .int k b := by obtain ⟨cs, h1, h2⟩ := h; rw [h2, show cs = _ from h1]; rfl
theorem dStr_inv {w : World} {ok : Nat → Prop} {s : List UInt8} {v : Value} (h : DV w ok .str s v) : v = .string ⟨s.toArray⟩ := by obtain ⟨cs, h1, h2⟩ := h; rw [h2, show cs = _ from h1]; rfl
theorem dSl_inv {w : World} {ok : Nat → Prop} {t : Ty} {xs : List t.den} {v : Value} (h : DV w ok (.sl t) xs v) :
    ∃ a cap, v = .slice a xs.length cap ∧ xs.length ≤ cap ∧ (xs ≠ [] → ∃ b off ds, a = some ⟨b, off, none⟩ ∧ ok b ∧ Chain (DC w ok t) xs ds ∧ At w b off ds) := by
  obtain ⟨cs, ⟨a, cap, e, h1, h2⟩, h3⟩ := h
  subst e
  exact ⟨a, cap, h3, h1, h2⟩

theorem constPV_sound (c : Cx) (v : Value) : VR c (constPV v) v := by
  unfold constPV
  split
  · exact dV (dBool _)
  · exact dV (dInt _ _)
  · rename_i s
    exact dV (by simpa using dStr (w := c.w) (ok := c.ok) s.data.toList)
  all_goals first | (rw [VR]; done) | (rw [VR]; trivial) | (rw [VR])

section
variable {P : Program} {E : Env} {c : Cx}

theorem opd_sound (hg : GOk E c.w c.ok) {ts : List PV} {a : Act} (ht : TS c ts a.tmps) (x : Operand) : VR c (opd E ts x) (a.eval x) := by
  cases x with
  | tmp t => exact ht.2 t
  | const v => exact constPV_sound c v
  | global g =>
    simp only [opd, Act.eval]
    split
    · rename_i t x h
      obtain ⟨h1, cs, h2, h3⟩ := hg g t x h
      rw [VR]
      exact ⟨g, 0, cs, by simp [soff], h1, h2, h3⟩
    · rw [VR]; trivial
  | func f =>
    simp only [opd, Act.eval]
    rw [VR]
    exact ⟨[], rfl, by rw [VRs]⟩

theorem pvInt_sound {p : PV} {v : Value} {n : Int} (h : VR c p v) (hn : pvInt p = some n) : ∃ k, v = .int k n := by
  cases p with
  | d t x =>
    cases t with
    | int k =>
      simp only [pvInt, Option.some.injEq] at hn
      subst hn
      rw [VR] at h
      exact ⟨k, dInt_inv h⟩
    | _ => simp [pvInt] at hn
  | _ => simp [pvInt] at hn

variable {ρ : Type} {K : PV → Option ρ} {r : ρ}

theorem intOp_sound (w : World) (op : BinOp) (k k' : IntKind) (a b : Int) (ty : TypeId) (hk : isSh op = true ∨ k = k') (h : intOp op k a b K = some r) :
    ∃ v val, K v = some r ∧ VR c v val ∧ (binOp op ty (.int k a) (.int k' b)).run P w = .ok val w := by
  unfold intOp at h
  cases op <;> simp only at h
  case quo =>
    split at h
    · exact absurd h (by simp)
    · rename_i hb
      simp only [isSh, Bool.false_eq_true, false_or] at hk
      subst hk
      exact ⟨_, _, h, dV (dInt _ _), by simp [binOp, Op.intDiv, hb]⟩
  case rem =>
    split at h
    · exact absurd h (by simp)
    · rename_i hb
      simp only [isSh, Bool.false_eq_true, false_or] at hk
      subst hk
      exact ⟨_, _, h, dV (dInt _ _), by simp [binOp, Op.intDiv, hb]⟩
  case shl =>
    split at h
    · exact absurd h (by simp)
    · rename_i hb
      exact ⟨_, _, h, dV (dInt _ _), by simp [binOp, Op.shift, hb]⟩
  case shr =>
    split at h
    · exact absurd h (by simp)
    · rename_i hb
      exact ⟨_, _, h, dV (dInt _ _), by simp [binOp, Op.shift, hb]⟩
  all_goals
    simp only [isSh, Bool.false_eq_true, false_or] at hk
    subst hk
    refine ⟨_, _, h, dV (by first | exact dInt _ _ | exact dBool _), ?_⟩
    first
      | (simp [binOp, Op.intArith]; done)
      | (simp [binOp, Op.intBits, bits]; done)
      | (simp [binOp, Op.intCmp]; done)

theorem strLess_eq : ∀ (a b : List UInt8), Op.bytesLess a b = strLess a b
  | [], [] => rfl
  | [], _ :: _ => rfl
  | _ :: _, [] => rfl
  | a :: x, b :: y => by simp only [Op.bytesLess, strLess, strLess_eq x y]

theorem strOp_sound (w : World) (op : BinOp) (a b : List UInt8) (ty : TypeId) (h : strOp op a b K = some r) :
    ∃ v val, K v = some r ∧ VR c v val ∧ (binOp op ty (.string ⟨a.toArray⟩) (.string ⟨b.toArray⟩)).run P w = .ok val w := by
  have ha : (⟨a.toArray⟩ : ByteArray).toList = a := by rw [Lib.toList_data]
  have hb : (⟨b.toArray⟩ : ByteArray).toList = b := by rw [Lib.toList_data]
  unfold strOp at h
  cases op <;> simp only at h
  case add =>
    split at h
    · rename_i hl
      refine ⟨_, _, h, dV (dStr _), ?_⟩
      have e : (⟨a.toArray⟩ : ByteArray) ++ ⟨b.toArray⟩ = ⟨(a ++ b).toArray⟩ := by
        apply ByteArray.ext
        simp
      have h1 : ¬ (((⟨a.toArray⟩ : ByteArray).size + (⟨b.toArray⟩ : ByteArray).size : Nat) : Int) > IntKind.i64.max := by
        rw [Lib.size_eq, Lib.size_eq, show (⟨a.toArray⟩ : ByteArray).data.toList = a from rfl, show (⟨b.toArray⟩ : ByteArray).data.toList = b from rfl]
        have : IntKind.i64.max = 9223372036854775807 := by decide
        omega
      simp only [binOp, Op.stringOp]
      rw [if_neg h1, e]
      rfl
    · exact absurd h (by simp)
  all_goals first
    | exact ⟨_, _, h, dV (dBool _), by simp only [binOp, Op.stringOp, ha, hb, strLess_eq]; rfl⟩
    | exact absurd h (by simp)

theorem equal_eq (t : TypeId) (x y : Value) : Op.equal t x y = Op.equalIn (9999 + 1) t x y := rfl

theorem nilP_sound {p : PV} {v : Value} {b : Bool} (h : VR c p v) (hb : nilP p = some b) : (b = true ∧ v = .pointer none) ∨ (b = false ∧ ∃ a, v = .pointer (some a)) := by
  cases p <;> simp only [nilP, Option.some.injEq] at hb <;> try (simp at hb; done)
  · rw [VR] at h; exact .inr ⟨hb.symm, h.1⟩
  · rw [VR] at h; exact .inr ⟨hb.symm, h.1⟩
  · rw [VR] at h; obtain ⟨x, off, cs, e, _⟩ := h; exact .inr ⟨hb.symm, _, e⟩
  · rw [VR] at h; exact .inl ⟨hb.symm, h⟩
theorem nilI_sound {p : PV} {v : Value} {b : Bool} (h : VR c p v) (hb : nilI p = some b) : (b = true ∧ v = .nilIface) ∨ (b = false ∧ ∃ t a, v = .iface t a) := by
  cases p <;> simp only [nilI, Option.some.injEq] at hb <;> try (simp at hb; done)
  · rw [VR] at h; obtain ⟨u, e, _⟩ := h; exact .inr ⟨hb.symm, _, _, e⟩
  · rw [VR] at h; exact .inl ⟨hb.symm, h⟩
theorem nilF_sound {p : PV} {v : Value} {b : Bool} (h : VR c p v) (hb : nilF p = some b) : (b = true ∧ v = .nilFunc) ∨ (b = false ∧ ∃ f x l, v = .func f x l) := by
  cases p <;> simp only [nilF, Option.some.injEq] at hb <;> try (simp at hb; done)
  · rw [VR] at h; obtain ⟨u, e, _⟩ := h; exact .inr ⟨hb.symm, _, _, _, e⟩
  · rw [VR] at h; exact .inl ⟨hb.symm, h⟩
theorem nilM_sound {p : PV} {v : Value} {b : Bool} (h : VR c p v) (hb : nilM p = some b) : (b = true ∧ v = .map none) ∨ (b = false ∧ ∃ a, v = .map (some a)) := by
  cases p <;> simp only [nilM, Option.some.injEq] at hb <;> try (simp at hb; done)
  · rw [VR] at h; exact .inr ⟨hb.symm, h.1⟩
  · rw [VR] at h; exact .inl ⟨hb.symm, h⟩
theorem nilS_sound {p : PV} {v : Value} {b : Bool} (h : VR c p v) (hb : nilS p = some b) : (b = true ∧ v = .slice none 0 0) ∨ (b = false ∧ ∃ a l k, v = .slice (some a) l k) := by
  unfold nilS at hb
  split at hb
  · injection hb with hb; rw [VR] at h; exact .inl ⟨hb.symm, h⟩
  · injection hb with hb; rw [VR] at h; exact .inr ⟨hb.symm, h.1⟩
  · injection hb with hb; rw [VR] at h; exact .inr ⟨hb.symm, h.1⟩
  · rename_i t xs
    split at hb
    · cases hb
    · rename_i hne
      injection hb with hb
      rw [VR] at h
      obtain ⟨cs, ⟨a, cap, e, _, hx⟩, e2⟩ := h
      obtain ⟨q, off, ds, ea, _⟩ := hx (by intro e; subst e; exact hne rfl)
      subst e ea
      exact .inr ⟨hb.symm, _, _, _, e2⟩
  · cases hb
theorem nil2_some {f : PV → Option Bool} {x y : PV} {b : Bool} (h : nil2 f x y = some b) : (f x = some true ∧ f y = some b) ∨ (f x = some b ∧ f y = some true) := by
  unfold nil2 at h
  split at h
  · rename_i b' h1 h2; injection h with h; subst h; exact .inl ⟨h1, h2⟩
  · rename_i b' h1 h2; injection h with h; subst h; exact .inr ⟨h1, h2⟩
  · exact absurd h (by simp)

/-- A comparison with nil. -/
theorem nilEq_sound {t : TypeId} {ti : TI} (h : TOk P E t ti) {x y : PV} {vx vy : Value} {k b : Bool} (hx : VR c x vx) (hy : VR c y vy) (he : nilEqT (some ti) k x y = some b) (op : BinOp) (ox oy : Operand)
    (hk : k = true → isK ox = true ∨ isK oy = true) (hop : op = .eql ∨ op = .neq) (w : World) :
    (eqGuard op t ox oy vx vy).run P w = .ok () w ∧ (binOp op t vx vy).run P w = .ok (.bool (if op = .eql then b else !b)) w := by
  have fin : (eqGuard op t ox oy vx vy).run P w = .ok () w → (∀ op', op' = .eql ∨ op' = .neq → binOp op' t vx vy = (match op' with | .eql => (do pure (.bool (← Op.equal t vx vy))) | _ => (do pure (.bool (!(← Op.equal t vx vy)))))) → (Op.equal t vx vy).run P w = .ok b w →
      (eqGuard op t ox oy vx vy).run P w = .ok () w ∧ (binOp op t vx vy).run P w = .ok (.bool (if op = .eql then b else !b)) w := by
    intro hg hb hq
    refine ⟨hg, ?_⟩
    rw [hb op hop]
    rcases hop with rfl | rfl <;> simp [hq]
  obtain ⟨d, hd, hkk⟩ := h.und
  unfold nilEqT at he
  simp only at he
  cases hkd : ti.kind <;> simp only [hkd] at he hkk <;> try (simp at he; done)
  · simp only [TkOk] at hkk
    subst hkk
    rcases nil2_some he with ⟨h1, h2⟩ | ⟨h1, h2⟩ <;> rcases nilP_sound hx h1 with ⟨e1, rfl⟩ | ⟨e1, a1, rfl⟩ <;> rcases nilP_sound hy h2 with ⟨e2, rfl⟩ | ⟨e2, a2, rfl⟩ <;> (try (simp at e1; done)) <;> (try (simp at e2; done))
    all_goals
      refine fin ?_ ?_ ?_
      · rcases hop with rfl | rfl <;> rfl
      · rintro op' (rfl | rfl) <;> rfl
      · subst_vars; rw [equal_eq]; unfold Op.equalIn; simp only [Sem.run_bind, run_underlying hd, Result.andThen_ok]; rfl
  · simp only [TkOk] at hkk
    subst hkk
    rcases nil2_some he with ⟨h1, h2⟩ | ⟨h1, h2⟩ <;> rcases nilS_sound hx h1 with ⟨e1, rfl⟩ | ⟨e1, a1, l1, k1, rfl⟩ <;> rcases nilS_sound hy h2 with ⟨e2, rfl⟩ | ⟨e2, a2, l2, k2, rfl⟩ <;> (try (simp at e1; done)) <;> (try (simp at e2; done))
    all_goals
      refine fin ?_ ?_ ?_
      · rcases hop with rfl | rfl <;> rfl
      · rintro op' (rfl | rfl) <;> rfl
      · subst_vars; rw [equal_eq]; unfold Op.equalIn; simp only [Sem.run_bind, run_underlying hd, Result.andThen_ok]; rfl
  · simp only [TkOk] at hkk
    obtain ⟨p1, p2, p3, rfl⟩ := hkk
    rcases nil2_some he with ⟨h1, h2⟩ | ⟨h1, h2⟩ <;> rcases nilF_sound hx h1 with ⟨e1, rfl⟩ | ⟨e1, a1, b1, c1, rfl⟩ <;> rcases nilF_sound hy h2 with ⟨e2, rfl⟩ | ⟨e2, a2, b2, c2, rfl⟩ <;> (try (simp at e1; done)) <;> (try (simp at e2; done))
    all_goals
      refine fin ?_ ?_ ?_
      · rcases hop with rfl | rfl <;> rfl
      · rintro op' (rfl | rfl) <;> rfl
      · subst_vars; rw [equal_eq]; unfold Op.equalIn; simp only [Sem.run_bind, run_underlying hd, Result.andThen_ok]; rfl
  · cases k with
    | false => simp at he
    | true =>
      simp only [cond_true] at he
      simp only [TkOk] at hkk
      obtain ⟨m, rfl⟩ := hkk
      rcases nil2_some he with ⟨h1, h2⟩ | ⟨h1, h2⟩ <;> rcases nilI_sound hx h1 with ⟨e1, rfl⟩ | ⟨e1, a1, b1, rfl⟩ <;> rcases nilI_sound hy h2 with ⟨e2, rfl⟩ | ⟨e2, a2, b2, rfl⟩ <;> (try (simp at e1; done)) <;> (try (simp at e2; done))
      all_goals
        refine fin ?_ ?_ ?_
        · rcases hk rfl with hk | hk
          · cases ox <;> simp [isK] at hk
            rcases hop with rfl | rfl <;> rfl
          · cases oy <;> simp [isK] at hk
            rcases hop with rfl | rfl <;> cases ox <;> rfl
        · rintro op' (rfl | rfl) <;> rfl
        · subst_vars; rw [equal_eq]; unfold Op.equalIn; simp only [Sem.run_bind, run_underlying hd, Result.andThen_ok]; rfl
  · simp only [TkOk] at hkk
    subst hkk
    rcases nil2_some he with ⟨h1, h2⟩ | ⟨h1, h2⟩ <;> rcases nilM_sound hx h1 with ⟨e1, rfl⟩ | ⟨e1, a1, rfl⟩ <;> rcases nilM_sound hy h2 with ⟨e2, rfl⟩ | ⟨e2, a2, rfl⟩ <;> (try (simp at e1; done)) <;> (try (simp at e2; done))
    all_goals
      refine fin ?_ ?_ ?_
      · rcases hop with rfl | rfl <;> rfl
      · rintro op' (rfl | rfl) <;> rfl
      · subst_vars; rw [equal_eq]; unfold Op.equalIn; simp only [Sem.run_bind, run_underlying hd, Result.andThen_ok]; rfl

end
end Go.Fy

set_option linter.unusedVariables false
namespace Go.Fy
open Go.RowKit

section
variable {P : Program} {E : Env} {c : Cx} {ρ : Type} {K : PV → Option ρ} {r : ρ}

theorem guard_int (op : BinOp) (t : TypeId) (ox oy : Operand) (k : IntKind) (n : Int) (v : Value) (w : World) : (eqGuard op t ox oy (.int k n) v).run P w = .ok () w := by
  rw [eqGuard_at_int]; rfl
theorem guard_bool (op : BinOp) (t : TypeId) (ox oy : Operand) (b : Bool) (v : Value) (w : World) : (eqGuard op t ox oy (.bool b) v).run P w = .ok () w := by
  rw [eqGuard_at_bool]; rfl
theorem guard_str (op : BinOp) (t : TypeId) (ox oy : Operand) (s : ByteArray) (v : Value) (w : World) : (eqGuard op t ox oy (.string s) v).run P w = .ok () w := by
  cases op <;> rfl

theorem run_eql_bool (t : TypeId) (a b : Bool) (w : World) (h : P.underlying t = some .bool) : (Op.equal t (.bool a) (.bool b)).run P w = .ok (a == b) w := by
  rw [equal_eq]; unfold Op.equalIn; simp only [Sem.run_bind, run_underlying h, Result.andThen_ok]; rfl

theorem DV_noagg {w : World} {ok : Nat → Prop} {τ : Ty} {x : τ.den} {v : Value} (h : DV w ok τ x v) (ha : τ.agg = true) : ∃ cs, v = .agg cs := by
  obtain ⟨cs, _, e⟩ := h
  rw [ha] at e
  exact ⟨cs.toArray, e⟩

def eqM (op : BinOp) (s : Sem Bool) : Sem Value := match op with
  | .eql => do pure (.bool (← s))
  | _ => do pure (.bool (!(← s)))
theorem binOp_eq_agg (op : BinOp) (hop : op = .eql ∨ op = .neq) (t : TypeId) (x y : Array Value) : binOp op t (.agg x) (.agg y) = eqM op (Op.equal t (.agg x) (.agg y)) := by
  rcases hop with rfl | rfl <;> rfl

theorem binOpA_data (hE : EnvOk P E) {op : BinOp} {ty : Nat} {k : Bool} {t t' : Ty} {a : t.den} {b : t'.den} {vx vy : Value} {ox oy : Operand} (ha : DV c.w c.ok t a vx) (hb : DV c.w c.ok t' b vy)
    (h : (match cast? t' t b, E.tt ty with
      | some b, some ti => if (ti.ty = some t ∧ noSl t = true) ∧ ti.cmp = true then (match op with
        | .eql => K (.d .bool (deq t a b))
        | .neq => K (.d .bool (!(deq t a b)))
        | _ => none) else none
      | _, _ => none) = some r) : ∃ v val, K v = some r ∧ VR c v val ∧ (eqGuard op ty ox oy vx vy).run P c.w = .ok () c.w ∧ (binOp op ty vx vy).run P c.w = .ok val c.w := by
  split at h
  · rename_i b' ti hc htt
    obtain ⟨rfl, rfl⟩ := cast?_some hc
    split at h
    · rename_i hty
      obtain ⟨hty, hcmp⟩ := hty
      have hs := hE.seq ty ti t' htt hty.1 hty.2 hcmp c.w c.ok a b' vx vy ha hb
      have hT := hE.tt ty ti htt
      have hop : op = .eql ∨ op = .neq := by cases op <;> simp_all
      have hg : (eqGuard op ty ox oy vx vy).run P c.w = .ok () c.w := by
        cases hagg : t'.agg with
        | true =>
          obtain ⟨p, rfl⟩ := DV_noagg ha hagg
          obtain ⟨q, rfl⟩ := DV_noagg hb hagg
          exact run_eqGuard_agg c.w op ty ox oy p q (hT.eqg t' hty.1)
        | false =>
          cases t' with
          | bool => rw [dBool_inv ha]; exact guard_bool ..
          | int k => rw [dInt_inv ha]; exact guard_int ..
          | str => rw [dStr_inv ha]; exact guard_str ..
          | sl t => simp [noSl] at hty
          | _ => simp [Ty.agg] at hagg
      have hb' : binOp op ty vx vy = eqM op (Op.equal ty vx vy) ∨ t' = .bool ∨ (∃ k, t' = .int k) ∨ t' = .str := by
        cases hagg : t'.agg with
        | true =>
          obtain ⟨p, rfl⟩ := DV_noagg ha hagg
          obtain ⟨q, rfl⟩ := DV_noagg hb hagg
          exact .inl (binOp_eq_agg op hop ty p q)
        | false => cases t' <;> simp_all [Ty.agg, noSl]
      rcases hb' with hb' | rfl | ⟨k, rfl⟩ | rfl
      · rcases hop with rfl | rfl
        · exact ⟨_, _, h, dV (dBool _), hg, by rw [hb']; simp [eqM, hs]⟩
        · exact ⟨_, _, h, dV (dBool _), hg, by rw [hb']; simp [eqM, hs]⟩
      · have e1 := dBool_inv ha
        have e2 := dBool_inv hb
        subst e1 e2
        rcases hop with rfl | rfl
        · exact ⟨_, _, h, dV (dBool _), hg, by show (do pure (Value.bool (← Op.equal ty (.bool a) (.bool b'))) : Sem Value).run P c.w = _; simp [hs]⟩
        · exact ⟨_, _, h, dV (dBool _), hg, by show (do pure (Value.bool (!(← Op.equal ty (.bool a) (.bool b')))) : Sem Value).run P c.w = _; simp [hs]⟩
      · have e1 := dInt_inv ha
        have e2 := dInt_inv hb
        subst e1 e2
        rcases hop with rfl | rfl
        · exact ⟨_, _, h, dV (dBool _), hg, by simp [binOp, Op.intCmp, deq]⟩
        · exact ⟨_, _, h, dV (dBool _), hg, by simp [binOp, Op.intCmp, deq, bne]⟩
      · have e1 := dStr_inv ha
        have e2 := dStr_inv hb
        subst e1 e2
        have ha' : (⟨a.toArray⟩ : ByteArray).toList = a := by rw [Lib.toList_data]
        have hb' : (⟨b'.toArray⟩ : ByteArray).toList = b' := by rw [Lib.toList_data]
        rcases hop with rfl | rfl
        · exact ⟨_, _, h, dV (dBool _), hg, by simp only [binOp, Op.stringOp, ha', hb']; rfl⟩
        · exact ⟨_, _, h, dV (dBool _), hg, by simp only [binOp, Op.stringOp, ha', hb']; rfl⟩
    · exact absurd h (by simp)
  · exact absurd h (by simp)

theorem binOpA_sound (hE : EnvOk P E) {op : BinOp} {ty : Nat} {k : Bool} {x y : PV} {vx vy : Value} {ox oy : Operand} (hk : k = true → isK ox = true ∨ isK oy = true) (hx : VR c x vx) (hy : VR c y vy)
    (h : binOpA E op ty k x y K = some r) : ∃ v val, K v = some r ∧ VR c v val ∧ (eqGuard op ty ox oy vx vy).run P c.w = .ok () c.w ∧ (binOp op ty vx vy).run P c.w = .ok val c.w := by
  have nil : (match nilEqT (E.tt ty) k x y with
    | some b => eqR op b K
    | none => none) = some r → ∃ v val, K v = some r ∧ VR c v val ∧ (eqGuard op ty ox oy vx vy).run P c.w = .ok () c.w ∧ (binOp op ty vx vy).run P c.w = .ok val c.w := by
    intro h
    split at h
    · rename_i b hb
      cases htt : E.tt ty with
      | none => rw [htt] at hb; simp [nilEqT] at hb
      | some ti =>
        rw [htt] at hb
        have hop : op = .eql ∨ op = .neq := by cases op <;> simp_all [eqR]
        obtain ⟨h1, h2⟩ := nilEq_sound (hE.tt ty ti htt) hx hy hb op ox oy hk hop c.w
        rcases hop with rfl | rfl
        · exact ⟨_, _, h, dV (dBool _), h1, by simpa using h2⟩
        · exact ⟨_, _, h, dV (dBool _), h1, by simpa using h2⟩
    · exact absurd h (by simp)
  unfold binOpA at h
  split at h
  · rename_i k1 a k2 b
    rw [VR] at hx hy
    have e1 := dInt_inv hx
    have e2 := dInt_inv hy
    subst e1 e2
    cases hs : isSh op with
    | true =>
      simp only [hs, cond_true] at h
      obtain ⟨v, val, h1, h2, h3⟩ := intOp_sound (P := P) (c := c) c.w op k1 k2 a b ty (.inl hs) h
      exact ⟨v, val, h1, h2, guard_int .., h3⟩
    | false =>
      simp only [hs, cond_false] at h
      split at h
      · rename_i e
        obtain ⟨v, val, h1, h2, h3⟩ := intOp_sound (P := P) (c := c) c.w op k1 k2 a b ty (.inr e) h
        exact ⟨v, val, h1, h2, guard_int .., h3⟩
      · exact absurd h (by simp)
  · rename_i a b
    rw [VR] at hx hy
    have e1 := dStr_inv hx
    have e2 := dStr_inv hy
    subst e1 e2
    obtain ⟨v, val, h1, h2, h3⟩ := strOp_sound (P := P) (c := c) c.w op a b ty h
    exact ⟨v, val, h1, h2, guard_str .., h3⟩
  · rename_i a b
    rw [VR] at hx hy
    have e1 := dBool_inv hx
    have e2 := dBool_inv hy
    subst e1 e2
    cases hkd : kindOf E ty with
    | bool =>
      simp only [hkd] at h
      have hu : P.underlying ty = some .bool := by
        unfold kindOf at hkd
        split at hkd
        · rename_i ti htt
          obtain ⟨d, hd, hk⟩ := (hE.tt ty ti htt).und
          rw [hkd] at hk
          simp only [TkOk] at hk
          rw [← hk]; exact hd
        · exact absurd hkd (by simp)
      have hq := run_eql_bool ty a b c.w hu
      have hop : op = .eql ∨ op = .neq := by cases op <;> simp_all
      rcases hop with rfl | rfl
      · exact ⟨_, _, h, dV (dBool _), guard_bool .., by show (do pure (Value.bool (← Op.equal ty (.bool a) (.bool b))) : Sem Value).run P c.w = _; simp [hq]⟩
      · exact ⟨_, _, h, dV (dBool _), guard_bool .., by show (do pure (Value.bool (!(← Op.equal ty (.bool a) (.bool b)))) : Sem Value).run P c.w = _; simp [hq]⟩
    | _ => simp only [hkd] at h; exact absurd h (by simp)
  · rename_i t a t' b _ _ _
    rw [VR] at hx hy
    exact binOpA_data hE (k := k) hx hy h
  · exact nil h

theorem unOpA_sound (w : World) {op : UnOp} {x : PV} {vx : Value} (hx : VR c x vx) (h : unOpA op x K = some r) : ∃ v val, K v = some r ∧ VR c v val ∧ (Op.unary op vx).run P w = .ok val w := by
  unfold unOpA at h
  split at h
  · rename_i k n
    rw [VR] at hx
    have e := dInt_inv hx
    subst e
    exact ⟨_, _, h, dV (dInt _ _), by simp [Op.unary, Op.intArith]⟩
  · rename_i k n
    rw [VR] at hx
    have e := dInt_inv hx
    subst e
    exact ⟨_, _, h, dV (dInt _ _), by simp [Op.unary, Op.intBits, bits]⟩
  · rename_i b
    rw [VR] at hx
    have e := dBool_inv hx
    subst e
    exact ⟨_, _, h, dV (dBool _), by simp [Op.unary]⟩
  · exact absurd h (by simp)

theorem pickA_sound (w : World) {p a b : PV} {vp va vb : Value} (hp : VR c p vp) (ha : VR c a va) (hb : VR c b vb) (h : pickA p a b K = some r) :
    ∃ v val, K v = some r ∧ VR c v val ∧ (do pure (Next.value (if ← asBool vp then va else vb)) : Sem Next).run P w = .ok (.value val) w := by
  unfold pickA at h
  split at h
  · rename_i t
    rw [VR] at hp
    have e := dBool_inv hp
    subst e
    cases t with
    | true => exact ⟨a, va, by simpa using h, ha, by simp [asBool]⟩
    | false => exact ⟨b, vb, by simpa using h, hb, by simp [asBool]⟩
  · exact absurd h (by simp)

end
end Go.Fy

set_option linter.unusedVariables false
namespace Go.Fy
open Go.RowKit

theorem soff_add (l : List (Option (Nat × Ty))) (i k : Nat) : soff l (i + k) = soff l i + soff (l.drop i) k := by
  unfold soff
  rw [List.take_add, List.map_append, List.sum_append]

theorem soff_take (l : List (Option (Nat × Ty))) (n k : Nat) (h : k ≤ n) : soff (l.take n) k = soff l k := by
  unfold soff
  rw [List.take_take, Nat.min_eq_left h]

theorem tsh_sz : ∀ t : Ty, ((tsh t).map ssz).sum = t.sz
  | .nil => rfl
  | .cons a b => by simp only [tsh, List.map_append, List.sum_append, tsh_sz a, tsh_sz b, Ty.sz]
  | .arr n t => by simp [tsh, ssz, Ty.sz]
  | .bool => rfl
  | .int _ => rfl
  | .str => rfl
  | .sl _ => rfl

section
variable {P : Program} {E : Env} {c : Cx} {ρ : Type} {K : PV → Option ρ} {r : ρ} {t : Nat} {ti : TI}

theorem TOk.size_of (h : TOk P E t ti) {τ : Ty} (hs : tsh τ = ti.shs) : ti.size = τ.sz := by rw [← h.sz, ← hs, tsh_sz]

theorem fieldAddrA_sound (h : TOk P E t ti) {p v : PV} {pv : Value} {f : Nat} (hp : VR c p pv) (he : fieldAddrA c.H ti p f = some v) :
    ∃ val, VR c v val ∧ (Instr.fieldAt t pv f).run P c.w = .ok val c.w := by
  unfold fieldAddrA at he
  split at he
  · rename_i fs hkd
    split at he
    · rename_i k off ft hf
      obtain ⟨d, hd, hk⟩ := h.und
      rw [hkd] at hk
      simp only [TkOk] at hk
      obtain ⟨fields, rfl, hfs⟩ := hk
      obtain ⟨fld, hfld, hoff, hty, hso, hkl⟩ := hfs f k off ft hf
      obtain ⟨i, hi, hnz⟩ := h.fsz fs hkd f k off ft hf
      have run : ∀ b o, pv = .pointer (some ⟨b, o, none⟩) → (Instr.fieldAt t pv f).run P c.w = .ok (.pointer (some ⟨b, o + off, none⟩)) c.w := by
        intro b o e
        subst e
        simp only [Instr.fieldAt, Sem.run_bind, run_underlying hd, Result.andThen_ok, hfld, Instr.sureAddr, Sem.run_pure, fieldPlace, sizeOf, typeInfo, hty, run_program, hi, if_neg hnz, add_zero_addr, hoff]
      have hsoff : ∀ (l : List (Option (Nat × Ty))) (j : Nat), (l.drop j).take ti.shs.length = ti.shs → soff l (j + k) = soff l j + off ∧ (j ≤ l.length → j + k ≤ l.length) := by
        intro l j hl
        constructor
        · rw [soff_add, ← soff_take (l.drop j) ti.shs.length k hkl, hl, hso]
        · have := congrArg List.length hl
          rw [List.length_take, List.length_drop] at this
          intro hj
          omega
      cases p with
      | pt b i0 =>
        simp only at he
        split at he
        · rename_i us hb
          split at he
          · rename_i hs
            injection he with he
            subst he
            rw [VR] at hp
            obtain ⟨hp1, hp2⟩ := hp.2.2 us hb
            rw [List.map_take, List.map_drop] at hs
            obtain ⟨h1, h2⟩ := hsoff _ i0 hs
            refine ⟨_, ?_, run _ _ hp2⟩
            rw [VR]
            refine ⟨⟨_, rfl⟩, hp.2.1, fun us' hb' => ?_⟩
            rw [hb] at hb'
            injection hb' with hb'
            injection hb' with hb'
            subst hb'
            exact ⟨by have := h2 (by simpa using hp1); simpa using this, by rw [h1]⟩
          · exact absurd he (by simp)
        · exact absurd he (by simp)
      | pe b i0 ver j q =>
        simp only at he
        split at he
        · rename_i us hb
          split at he
          · rename_i m τ xs hui
            split at he
            · rename_i hs
              injection he with he
              subst he
              rw [VR] at hp
              obtain ⟨n, τ', hsh, hj, hpv⟩ := hp.2.2.1 us hb
              have hs' : (us.map shp)[i0]? = some (shp (.d (.arr m τ) xs)) := by rw [List.getElem?_map, hui]; rfl
              rw [hsh] at hs'
              simp only [shp, Option.some.injEq, Prod.mk.injEq] at hs'
              obtain ⟨rfl, rfl⟩ := hs'
              obtain ⟨h1, h2⟩ := hsoff _ q hs
              refine ⟨_, ?_, run _ _ hpv⟩
              rw [VR]
              refine ⟨⟨_, rfl⟩, hp.2.1, fun us' hb' => ?_, fun e' t' xs' u' hb' => by rw [hb] at hb'; injection hb' with hb'; exact absurd hb' (by simp)⟩
              rw [hb] at hb'
              injection hb' with hb'
              injection hb' with hb'
              subst hb'
              exact ⟨n, τ', hsh, hj, by rw [h1]; simp only [Nat.add_assoc]⟩
            · exact absurd he (by simp)
          · exact absurd he (by simp)
        · rename_i e τ xs u hb
          split at he
          · rename_i hver
            subst hver
            split at he
            · rename_i hs
              injection he with he
              subst he
              rw [VR] at hp
              obtain ⟨hle, hk⟩ := hp.2.2.2 e τ xs ver hb
              obtain ⟨hj, hpv⟩ := hk rfl
              obtain ⟨h1, h2⟩ := hsoff _ q hs
              refine ⟨_, ?_, run _ _ hpv⟩
              rw [VR]
              refine ⟨⟨_, rfl⟩, hp.2.1, fun us' hb' => by rw [hb] at hb'; injection hb' with hb'; exact absurd hb' (by simp), fun e' t' xs' u' hb' => ?_⟩
              rw [hb] at hb'
              injection hb' with hb'
              injection hb' with e1 e2 e3 e4
              subst e1 e2 e4
              have e3' := eq_of_heq e3
              subst e3'
              exact ⟨hle, fun _ => ⟨hj, by rw [h1, ← Nat.add_assoc]⟩⟩
            · exact absurd he (by simp)
          · exact absurd he (by simp)
        · exact absurd he (by simp)
      | ce τ x q =>
        simp only at he
        split at he
        · rename_i hs
          injection he with he
          subst he
          rw [VR] at hp
          obtain ⟨b, o, cs, hpv, hb, hd', ha⟩ := hp
          obtain ⟨h1, h2⟩ := hsoff _ q hs
          refine ⟨_, ?_, run _ _ hpv⟩
          rw [VR]
          exact ⟨b, o, cs, by rw [h1, Nat.add_assoc], hb, hd', ha⟩
        · exact absurd he (by simp)
      | _ => exact absurd he (by simp)
    · exact absurd he (by simp)
  · exact absurd he (by simp)

/-- Behind an index that is in range. -/
theorem run_indexAt_slice {w : World} {e : Nat} (hd : P.underlying t = some (.slice e)) {k : IntKind} {i : Int} {b o len cap : Nat} (hs : ∀ w, (sizeOf e).run P w = .ok ti.size w) (hi : inR i len) :
    (Instr.indexAt t (.slice (some ⟨b, o, none⟩) len cap) (.int k i)).run P w = .ok (.pointer (some ⟨b, o + i.toNat * ti.size, none⟩)) w := by
  unfold Instr.indexAt
  have : 0 ≤ i ∧ i < (len : Int) := hi
  simp only [asIntOf, Sem.run_bind, Sem.run_pure, Result.andThen_ok, run_underlying hd, hs, if_pos this, add_zero_addr]

theorem run_indexAt_array {w : World} {n e : Nat} (hd : P.underlying t = some (.array n e)) {k : IntKind} {i : Int} {b o : Nat} (hs : ∀ w, (sizeOf e).run P w = .ok ti.size w) (hi : inR i n) :
    (Instr.indexAt t (.pointer (some ⟨b, o, none⟩)) (.int k i)).run P w = .ok (.pointer (some ⟨b, o + i.toNat * ti.size, none⟩)) w := by
  unfold Instr.indexAt
  have : 0 ≤ i ∧ i < (n : Int) := hi
  simp only [asIntOf, Sem.run_bind, Sem.run_pure, Result.andThen_ok, run_underlying hd, hs, if_pos this, add_zero_addr, Instr.sureAddr]

theorem elem_ce {τ : Ty} {xs : List τ.den} {cs : List Value} {b o : Nat} {i : Int} (hok : c.ok b) (hch : Chain (DC c.w c.ok τ) xs cs) (ha : At c.w b o cs) (hi : inR i xs.length) :
    VR c (.ce τ (xs.getD i.toNat (dflt τ)) 0) (.pointer (some ⟨b, o + i.toNat * τ.sz, none⟩)) := by
  have hi' : i.toNat < xs.length := by unfold inR at hi; omega
  have hjx : xs[i.toNat]? = some xs[i.toNat] := List.getElem?_eq_getElem hi'
  obtain ⟨es, d1, d2⟩ := Chain.at_ (fun x cs => DC.length τ x cs) xs cs hch ha _ _ hjx
  rw [VR, getD_some hjx]
  exact ⟨b, _, es, by simp [soff], hok, d1, d2⟩

/-- Where a unit of an immutable datum lies. -/
theorem ce_unit {τ : Ty} {x : τ.den} {q b o : Nat} {cs : List Value} {n : Nat} {τ' : Ty} {xs : List τ'.den} (hu : (units τ x)[q]? = some (.d (.arr n τ') xs)) (hd : DC c.w c.ok τ x cs) (ha : At c.w b o cs) :
    ∃ ds, xs.length = n ∧ Chain (DC c.w c.ok τ') xs ds ∧ At c.w b (o + soff (tsh τ) q) ds := by
  obtain ⟨ds, h1, h2, _⟩ := URs.at_ (units_wf τ x) (units_URs τ x cs hd) ha q 1
  rw [units_shp] at h2
  have hlt := (List.getElem?_eq_some_iff.1 hu).1
  rw [List.drop_eq_getElem_cons hlt, List.take_succ_cons, List.take_zero, (List.getElem?_eq_some_iff.1 hu).2] at h1
  obtain ⟨p1, p2, e1, hd', hn⟩ := URs_cons.1 h1
  rw [URs] at hn
  subst hn
  rw [List.append_nil] at e1
  subst e1
  exact ⟨ds, hd'.1, hd'.2, h2⟩

theorem indexAddrA_sound (hE : EnvOk P E) (h : TOk P E t ti) {x : PV} {vx vi : Value} {i : Int} (hx : VR c x vx) (hi : ∃ k, vi = .int k i) (he : indexAddrA E c.H ti x i K = some r) :
    ∃ v val, K v = some r ∧ VR c v val ∧ (Instr.indexAt t vx vi).run P c.w = .ok val c.w := by
  obtain ⟨k, rfl⟩ := hi
  obtain ⟨d, hd, hk⟩ := h.und
  unfold indexAddrA at he
  split at he
  · rename_i e hkd
    rw [hkd] at hk
    simp only [TkOk] at hk
    subst hk
    split at he
    · exact absurd he (by simp)
    · rename_i te hte
      have hT := hE.tt e te hte
      split at he
      · rename_i τ xs
        split at he
        · rename_i hs
          split at he
          · rename_i hin
            rw [VR] at hx
            obtain ⟨a, cap, rfl, hcap, hne⟩ := dSl_inv hx
            have hne' : xs ≠ [] := by rintro rfl; unfold inR at hin; simp at hin; omega
            obtain ⟨b, o, ds, rfl, hok, hch, ha⟩ := hne hne'
            refine ⟨_, _, he, elem_ce hok hch ha hin, ?_⟩
            rw [← hT.size_of hs]
            exact run_indexAt_slice hd hT.run_sizeOf hin
          · exact absurd he (by simp)
        · exact absurd he (by simp)
      · rename_i b ver off len
        split at he
        · rename_i e' τ xs u hb
          split at he
          · rename_i hs
            obtain ⟨rfl, hs⟩ := hs
            split at he
            · rename_i hin
              rw [VR] at hx
              obtain ⟨hle, hk⟩ := hx.2.2 e' τ xs ver hb
              obtain ⟨h1, h2, rfl⟩ := hk rfl
              refine ⟨_, _, he, ?_, run_indexAt_slice hd hT.run_sizeOf hin⟩
              rw [VR]
              refine ⟨⟨_, rfl⟩, hx.2.1, fun us' hb' => by rw [hb] at hb'; injection hb' with hb'; exact absurd hb' (by simp), fun e1 t1 xs1 u1 hb' => ?_⟩
              rw [hb] at hb'
              injection hb' with hb'
              injection hb' with e1 e2 e3 e4
              subst e1 e2 e4
              have e3' := eq_of_heq e3
              subst e3'
              refine ⟨Nat.le_refl _, fun _ => ⟨by unfold inR at hin; omega, ?_⟩⟩
              rw [hT.size_of hs]
              simp [soff, Nat.add_mul]
            · exact absurd he (by simp)
          · exact absurd he (by simp)
        · exact absurd he (by simp)
      · rename_i b i0 off len
        split at he
        · rename_i us hb
          split at he
          · rename_i m τ xs hui
            split at he
            · rename_i hs
              split at he
              · rename_i hin
                rw [VR] at hx
                obtain ⟨n, τ', cap, hsh, hle, hlc, rfl⟩ := hx.2.2 us hb
                have hs' : (us.map shp)[i0]? = some (shp (.d (.arr m τ) xs)) := by rw [List.getElem?_map, hui]; rfl
                rw [hsh] at hs'
                simp only [shp, Option.some.injEq, Prod.mk.injEq] at hs'
                obtain ⟨rfl, rfl⟩ := hs'
                refine ⟨_, _, he, ?_, run_indexAt_slice hd hT.run_sizeOf hin⟩
                rw [VR]
                refine ⟨⟨_, rfl⟩, hx.2.1, fun us' hb' => ?_, fun e' t' xs' u' hb' => by rw [hb] at hb'; injection hb' with hb'; exact absurd hb' (by simp)⟩
                rw [hb] at hb'
                injection hb' with hb'
                injection hb' with hb'
                subst hb'
                refine ⟨n, τ', hsh, by unfold inR at hin; omega, ?_⟩
                rw [hT.size_of hs]
                simp [soff, Nat.add_mul, Nat.add_assoc]
              · exact absurd he (by simp)
            · exact absurd he (by simp)
          · exact absurd he (by simp)
        · exact absurd he (by simp)
      · exact absurd he (by simp)
  · rename_i n e hkd
    rw [hkd] at hk
    simp only [TkOk] at hk
    subst hk
    split at he
    · exact absurd he (by simp)
    · rename_i te hte
      have hT := hE.tt e te hte
      split at he
      · rename_i b i0
        split at he
        · rename_i us hb
          split at he
          · rename_i m τ xs hui
            split at he
            · rename_i hs
              obtain ⟨rfl, hs⟩ := hs
              split at he
              · rename_i hin
                rw [VR] at hx
                obtain ⟨hx1, rfl⟩ := hx.2.2 us hb
                have hs' : (us.map shp)[i0]? = some (some (m, τ)) := by rw [List.getElem?_map, hui]; rfl
                refine ⟨_, _, he, ?_, run_indexAt_array hd hT.run_sizeOf hin⟩
                rw [VR]
                refine ⟨⟨_, rfl⟩, hx.2.1, fun us' hb' => ?_, fun e' t' xs' u' hb' => by rw [hb] at hb'; injection hb' with hb'; exact absurd hb' (by simp)⟩
                rw [hb] at hb'
                injection hb' with hb'
                injection hb' with hb'
                subst hb'
                refine ⟨m, τ, hs', by unfold inR at hin; omega, ?_⟩
                rw [hT.size_of hs]
                simp [soff]
              · exact absurd he (by simp)
            · exact absurd he (by simp)
          · exact absurd he (by simp)
        · exact absurd he (by simp)
      · rename_i τ x q
        split at he
        · rename_i m τ' xs hui
          split at he
          · rename_i hs
            obtain ⟨rfl, hs⟩ := hs
            split at he
            · rename_i hin
              rw [VR] at hx
              obtain ⟨b, o, cs, rfl, hok, hd', ha⟩ := hx
              obtain ⟨ds, hl, hch, ha'⟩ := ce_unit hui hd' ha
              refine ⟨_, _, he, elem_ce hok hch ha' (by rw [hl]; exact hin), ?_⟩
              rw [← hT.size_of hs]
              exact run_indexAt_array hd hT.run_sizeOf hin
            · exact absurd he (by simp)
          · exact absurd he (by simp)
        · exact absurd he (by simp)
      · exact absurd he (by simp)
  · exact absurd he (by simp)

end
end Go.Fy

set_option linter.unusedVariables false
namespace Go.Fy
open Go.RowKit

section
variable {P : Program} {E : Env} {c : Cx} {ρ : Type} {K : PV → Option ρ} {r : ρ} {t : Nat} {ti : TI}

theorem isAggV_sound {x : PV} {vx : Value} (hx : VR c x vx) (h : isAggV x = true) : ∃ cs, vx = .agg cs := by
  cases x with
  | d τ y => rw [VR] at hx; exact DV_noagg hx h
  | ag us => rw [VR] at hx; obtain ⟨cs, e, _⟩ := hx; exact ⟨_, e⟩
  | _ => exact absurd h (by simp [isAggV])

/-- A part of an aggregate's cells. -/
theorem run_part {tf : TI} {ft : Nat} (hT : TOk P E ft tf) {w : World} {cs ds : List Value} {off : Nat} (hl : ds.length = tf.size) (ha : ∀ j v, ds[j]? = some v → cs[off + j]? = some v) :
    (part ft cs.toArray off).run P w = .ok (mkV tf.agg ds) w := by
  unfold part
  simp only [Sem.run_bind, hT.run_isAgg, Result.andThen_ok]
  cases hag : tf.agg with
  | true =>
    simp only [if_true, Sem.run_bind, hT.run_sizeOf, Result.andThen_ok, Sem.run_pure, mkV]
    congr 2
    apply Array.ext'
    rw [Array.toList_extract]
    simp only [List.toList_toArray, List.extract_eq_take_drop, Nat.add_sub_cancel_left]
    apply List.ext_getElem?
    intro j
    by_cases hj : j < ds.length
    · rw [List.getElem?_take, if_pos (by omega), List.getElem?_drop, ha j _ (List.getElem?_eq_getElem hj), List.getElem?_eq_getElem hj]
    · rw [List.getElem?_eq_none (by omega : ds.length ≤ j), List.getElem?_take, if_neg (by omega)]
  | false =>
    have h1 := hT.one hag
    have : tf.size = 1 := by rw [← hT.sz, h1]; rfl
    rw [this] at hl
    match ds, hl with
    | [x], _ =>
      have := ha 0 x rfl
      rw [Nat.add_zero] at this
      simp [this, mkV]

theorem URs.part {us : List PV} {cs : List Value} (hw : ∀ u ∈ us, wfU u = true) (h : URs c us cs) (i n : Nat) :
    ∃ ds, URs c ((us.drop i).take n) ds ∧ (∀ j v, ds[j]? = some v → cs[soff (us.map shp) i + j]? = some v) ∧ ds.length = ((((us.drop i).take n).map shp).map ssz).sum := by
  have h0 : us = us.take i ++ us.drop i := (List.take_append_drop i us).symm
  rw [h0] at h
  obtain ⟨a, d, e, h1, h2⟩ := (URs_append _ _ _).1 h
  have h3 : us.drop i = (us.drop i).take n ++ (us.drop i).drop n := (List.take_append_drop n _).symm
  rw [h3] at h2
  obtain ⟨d1, d2, e', h4, h5⟩ := (URs_append _ _ _).1 h2
  subst e e'
  have hl : a.length = soff (us.map shp) i := by
    rw [soff_eq]
    exact URs.length _ _ (fun u hu => hw u (List.mem_of_mem_take hu)) h1
  refine ⟨d1, h4, fun j v hv => ?_, URs.length _ _ (fun u hu => hw u (List.mem_of_mem_drop (List.mem_of_mem_take hu))) h4⟩
  rw [← hl, List.getElem?_append_right (by omega), Nat.add_sub_cancel_left, List.getElem?_append_left (List.getElem?_eq_some_iff.1 hv).1]
  exact hv

theorem fieldA_sound (hE : EnvOk P E) (h : TOk P E t ti) {x v : PV} {vx : Value} {f : Nat} (hx : VR c x vx) (he : fieldA E ti x f = some v) :
    ∃ val, VR c v val ∧ (Instr.field t vx f).run P c.w = .ok val c.w := by
  unfold fieldA at he
  split at he
  · rename_i fs hkd
    split at he
    · rename_i k off ft hf
      obtain ⟨d, hd, hk⟩ := h.und
      rw [hkd] at hk
      simp only [TkOk] at hk
      obtain ⟨fields, rfl, hfs⟩ := hk
      obtain ⟨fld, hfld, hoff, hty, hso, hkl⟩ := hfs f k off ft hf
      split at he
      · rename_i tf htf
        have hT := hE.tt ft tf htf
        split at he
        · rename_i us hus
          cases hb : us.all known && isAggV x with
          | false => simp [hb] at he
          | true =>
            simp only [hb, cond_true] at he
            rw [Bool.and_eq_true] at hb
            obtain ⟨cs, rfl⟩ := isAggV_sound hx hb.2
            obtain ⟨hu, hsh, hw, _⟩ := unitsOf_sound h hus hb.1 hx
            obtain ⟨ds, h1, h2, h3⟩ := URs.part hw hu k tf.shs.length
            have hs : ((us.drop k).take tf.shs.length).map shp = tf.shs := by
              unfold valOf at he
              split at he
              · assumption
              · exact absurd he (by simp)
            rw [hs, hT.sz] at h3
            rw [hsh, hso] at h2
            refine ⟨_, valOf_sound hT (fun u hu => hw u (List.mem_of_mem_drop (List.mem_of_mem_take hu))) he h1, ?_⟩
            have hp := run_part hT (w := c.w) (cs := cs.toList) (off := off) h3 (fun j v hv => by have := h2 j v hv; simpa [Value.cells] using this)
            simp only [Instr.field, Sem.run_bind, run_underlying hd, Result.andThen_ok, hfld, asAgg, Sem.run_pure, hoff, hty]
            simpa using hp
        · exact absurd he (by simp)
      · exact absurd he (by simp)
    · exact absurd he (by simp)
  · exact absurd he (by simp)

theorem indexA_sound (hE : EnvOk P E) (h : TOk P E t ti) {x : PV} {vx vi : Value} {i : Int} (hx : VR c x vx) (hi : ∃ k, vi = .int k i) (he : indexA E ti x i K = some r) :
    ∃ v val, K v = some r ∧ VR c v val ∧ (Instr.index t vx vi).run P c.w = .ok val c.w := by
  obtain ⟨k, rfl⟩ := hi
  obtain ⟨d, hd, hk⟩ := h.und
  unfold indexA at he
  split at he
  · rename_i s hkd
    rw [hkd] at hk
    simp only [TkOk] at hk
    subst hk
    split at he
    · rename_i hin
      rw [VR] at hx
      have e := dStr_inv hx
      subst e
      have hin' : 0 ≤ i ∧ i < (s.length : Int) := hin
      have hlt : i.toNat < s.length := by omega
      have hg : (⟨s.toArray⟩ : ByteArray)[i.toNat]? = some s[i.toNat] := by
        have hsz : i.toNat < (⟨s.toArray⟩ : ByteArray).size := by rw [Lib.size_eq]; exact hlt
        rw [getElem?_pos (⟨s.toArray⟩ : ByteArray) i.toNat hsz]
        rfl
      refine ⟨_, _, he, dV (dInt _ _), ?_⟩
      have hb : byteAt s i.toNat = (s[i.toNat].toNat : Int) := by simp [byteAt, List.getD_eq_getElem?_getD, List.getElem?_eq_getElem hlt]
      simp only [Instr.index, asIntOf, Sem.run_bind, Sem.run_pure, Result.andThen_ok, run_underlying hd, if_pos hin'.1, hg, hb]
    · exact absurd he (by simp)
  · rename_i n e m τ xs hkd
    rw [hkd] at hk
    simp only [TkOk] at hk
    subst hk
    split at he
    · rename_i te hte
      have hT := hE.tt e te hte
      split at he
      · rename_i hs
        obtain ⟨rfl, hty⟩ := hs
        split at he
        · rename_i hin
          rw [VR] at hx
          have hin' : 0 ≤ i ∧ i < (m : Int) := hin
          obtain ⟨cs, ⟨hl, hch⟩, rfl⟩ := hx
          have hlt : i.toNat < xs.length := by omega
          have hjx : xs[i.toNat]? = some xs[i.toNat] := List.getElem?_eq_getElem hlt
          obtain ⟨ds, d1, d2⟩ : ∃ ds, DC c.w c.ok τ xs[i.toNat] ds ∧ ∀ j v, ds[j]? = some v → cs[i.toNat * τ.sz + j]? = some v := by
            have key : ∀ (xs : List τ.den) (cs : List Value) (j : Nat) (x : τ.den), Chain (DC c.w c.ok τ) xs cs → xs[j]? = some x → ∃ ds, DC c.w c.ok τ x ds ∧ ∀ k v, ds[k]? = some v → cs[j * τ.sz + k]? = some v := by
              intro xs
              induction xs with
              | nil => intro cs j x _ hx; simp at hx
              | cons y ys ih =>
                rintro cs j x ⟨a, b, e, hy, hr⟩ hx
                subst e
                have hal := DC.length τ y a hy
                cases j with
                | zero =>
                  simp at hx
                  subst hx
                  exact ⟨a, hy, fun k v hv => by rw [Nat.zero_mul, Nat.zero_add, List.getElem?_append_left (List.getElem?_eq_some_iff.1 hv).1]; exact hv⟩
                | succ j =>
                  simp at hx
                  obtain ⟨ds, h1, h2⟩ := ih b j x hr hx
                  exact ⟨ds, h1, fun k v hv => by rw [List.getElem?_append_right (by rw [Nat.succ_mul]; omega), show (j + 1) * τ.sz + k - a.length = j * τ.sz + k by rw [Nat.succ_mul]; omega]; exact h2 k v hv⟩
            exact key xs cs _ _ hch hjx
          rw [getD_some hjx] at he
          have hsz : te.size = τ.sz := hT.size_of (hT.ty τ hty).1
          refine ⟨_, mkV te.agg ds, he, dV ⟨ds, d1, by rw [(hT.ty τ hty).2]⟩, ?_⟩
          have hp := run_part hT (w := c.w) (cs := cs) (off := i.toNat * te.size) (by rw [DC.length τ _ ds d1, hsz]) (fun j v hv => by rw [hsz]; exact d2 j v hv)
          have hv : mkV (Ty.arr m τ).agg cs = .agg cs.toArray := rfl
          rw [hv]
          simp only [Instr.index, asIntOf, Sem.run_bind, Sem.run_pure, Result.andThen_ok, run_underlying hd, if_pos hin', hT.run_sizeOf]
          exact hp
        · exact absurd he (by simp)
      · exact absurd he (by simp)
    · exact absurd he (by simp)
  · exact absurd he (by simp)

/-- A bound of a cut, as a value. -/
def Bd (o : Option Int) (v : Option Value) : Prop := match o, v with
  | none, none => True
  | some i, some v => ∃ k, v = .int k i
  | _, _ => False

theorem run_sliceBounds {w : World} {isS : Bool} {len cap l u : Nat} {lo hi : Option Int} {vlo vhi : Option Value} (h1 : Bd lo vlo) (h2 : Bd hi vhi) (hl : lo.getD 0 = (l : Int)) (hu : hi.getD (len : Int) = (u : Int)) (hlu : l ≤ u) (huc : u ≤ cap) :
    (Instr.sliceBounds isS len cap vlo vhi none).run P w = .ok (l, u, cap) w := by
  have b1 : ∀ (v : Value) (i : Int) (y : Nat) (q : BoundsCode) (k : IntKind) (m : Nat), v = .int k i → i = (m : Int) → m ≤ y → (Instr.sliceBound v y q).run P w = .ok m w := by
    intro v i y q k m hv hi' hm
    subst hv hi'
    have : (0 : Int) ≤ (m : Int) ∧ (m : Int) ≤ (y : Int) := by omega
    simp [Instr.sliceBound, asIntOf, this]
  unfold Instr.sliceBounds
  cases hi with
  | none =>
    cases vhi with
    | some _ => exact h2.elim
    | none =>
      simp only [Option.getD_none] at hu
      have hu' : len = u := by omega
      subst hu'
      cases lo with
      | none =>
        cases vlo with
        | some _ => exact h1.elim
        | none => simp only [Option.getD_none] at hl; have : l = 0 := by omega
                  subst this; simp
      | some i =>
        cases vlo with
        | none => exact h1.elim
        | some v =>
          obtain ⟨k, hv⟩ := h1
          simp only [Option.getD_some] at hl
          simp [b1 v i len _ k l hv hl hlu]
  | some j =>
    cases vhi with
    | none => exact h2.elim
    | some v2 =>
      obtain ⟨k2, hv2⟩ := h2
      simp only [Option.getD_some] at hu
      have q2 := fun q => b1 v2 j cap q k2 u hv2 hu huc
      cases lo with
      | none =>
        cases vlo with
        | some _ => exact h1.elim
        | none => simp only [Option.getD_none] at hl; have : l = 0 := by omega
                  subst this; simp [q2]
      | some i =>
        cases vlo with
        | none => exact h1.elim
        | some v =>
          obtain ⟨k, hv⟩ := h1
          simp only [Option.getD_some] at hl
          simp [q2, b1 v i u _ k l hv hl hlu]

end
end Go.Fy

set_option linter.unusedVariables false
namespace Go.Fy
open Go.RowKit

section
variable {P : Program} {E : Env} {c : Cx} {ρ : Type} {K : PV → Option ρ} {r : ρ} {t : Nat} {ti : TI}

theorem Chain.append {α : Type} {R : α → List Value → Prop} : ∀ (xs ys : List α) (cs : List Value), Chain R (xs ++ ys) cs ↔ ∃ a b, cs = a ++ b ∧ Chain R xs a ∧ Chain R ys b
  | [], ys, cs => ⟨fun h => ⟨[], cs, rfl, rfl, h⟩, fun ⟨a, b, e, h1, h2⟩ => by subst e; rw [show a = [] from h1]; exact h2⟩
  | x :: xs, ys, cs => by
    constructor
    · rintro ⟨a, b, e, hx, hr⟩
      obtain ⟨b1, b2, e2, h1, h2⟩ := (Chain.append xs ys b).1 hr
      exact ⟨a ++ b1, b2, by rw [e, e2, List.append_assoc], ⟨a, b1, rfl, hx, h1⟩, h2⟩
    · rintro ⟨a, b, e, ⟨a1, a2, e2, hx, h1⟩, h2⟩
      exact ⟨a1, a2 ++ b, by rw [e, e2, List.append_assoc], hx, (Chain.append xs ys _).2 ⟨a2, b, rfl, h1, h2⟩⟩

/-- A cut of a row. -/
theorem Chain.sub {α : Type} {R : α → List Value → Prop} {s : Nat} (hs : ∀ x cs, R x cs → cs.length = s) {xs : List α} {cs : List Value} {w : World} {b o : Nat} (h : Chain R xs cs) (ha : At w b o cs) (l u : Nat) (hlu : l ≤ u) (hu : u ≤ xs.length) :
    ∃ ds, Chain R (cutL xs l u) ds ∧ At w b (o + l * s) ds := by
  have e : xs = xs.take l ++ (cutL xs l u ++ xs.drop u) := by
    unfold cutL
    have h1 : (xs.take u).drop l ++ xs.drop u = xs.drop l := by
      conv => rhs; rw [← List.take_append_drop u xs]
      rw [List.drop_append_of_le_length (by rw [List.length_take]; omega)]
    rw [h1, List.take_append_drop]
  rw [e] at h
  obtain ⟨a, d, e1, h1, h2⟩ := (Chain.append _ _ _).1 h
  obtain ⟨d1, d2, e2, h3, h4⟩ := (Chain.append _ _ _).1 h2
  subst e1 e2
  have hl := Chain.length hs _ _ h1
  rw [List.length_take, Nat.min_eq_left (by omega)] at hl
  have := ha.split.2.split.1
  rw [hl] at this
  exact ⟨d1, h3, this⟩

theorem length_sub {α : Type} {xs : List α} {l u : Nat} (hu : u ≤ xs.length) : (cutL xs l u).length = u - l := by
  unfold cutL
  rw [List.length_drop, List.length_take, Nat.min_eq_left hu]

theorem DV_sub {τ : Ty} {xs : List τ.den} {a : Option Addr} {cap l u n : Nat} (hc : xs.length ≤ cap) (hn : n = xs.length) (hne : xs ≠ [] → ∃ b off ds, a = some ⟨b, off, none⟩ ∧ c.ok b ∧ Chain (DC c.w c.ok τ) xs ds ∧ At c.w b off ds) (hlu : l ≤ u) (hu : u ≤ xs.length) :
    DV c.w c.ok (.sl τ) (cutL xs l u) (.slice (if cap = l then a else a.map (·.add (l * τ.sz))) (u - l) (cap - l)) := by
  have hlen := length_sub (l := l) hu
  refine ⟨[.slice (if cap = l then a else a.map (·.add (l * τ.sz))) (u - l) (cap - l)], ⟨if cap = l then a else a.map (·.add (l * τ.sz)), cap - l, by rw [hlen], by rw [hlen]; omega, fun hs => ?_⟩, rfl⟩
  have hlt : l < u := by
    rcases Nat.lt_or_ge l u with h | h
    · exact h
    · exact absurd (List.eq_nil_of_length_eq_zero (by rw [hlen]; omega)) hs
  obtain ⟨b, off, ds, rfl, hok, hch, ha⟩ := hne (by rintro rfl; simp at hu; omega)
  obtain ⟨es, h1, h2⟩ := Chain.sub (fun x cs => DC.length τ x cs) hch ha l u hlu hu
  refine ⟨b, off + l * τ.sz, es, ?_, hok, h1, h2⟩
  rw [if_neg (by omega)]
  simp [add_zero_addr]

theorem elemOk_sound (hE : EnvOk P E) {e : Nat} {τ : Ty} (h : elemOk E e τ = true) (w : World) : (sizeOf e).run P w = .ok τ.sz w := by
  unfold elemOk at h
  split at h
  · rename_i te hte
    rw [(hE.tt e te hte).run_sizeOf, (hE.tt e te hte).size_of (by simpa using h)]
  · exact absurd h (by simp)
theorem isTy_sound (hE : EnvOk P E) {e : Nat} (h : isTy E e = true) : ∃ z, ∀ w, (sizeOf e).run P w = .ok z w := by
  unfold isTy at h
  obtain ⟨te, hte⟩ := Option.isSome_iff_exists.1 h
  exact ⟨_, (hE.tt e te hte).run_sizeOf⟩
theorem bif_some {b : Bool} {x : Option ρ} (h : (bif b then x else none) = some r) : b = true ∧ x = some r := by
  cases b with
  | true => exact ⟨rfl, h⟩
  | false => exact absurd h (by simp)

theorem sliceA_sound (hE : EnvOk P E) (h : TOk P E t ti) {x : PV} {vx : Value} {lo hi : Option Int} {vlo vhi : Option Value} (hx : VR c x vx) (h1 : Bd lo vlo) (h2 : Bd hi vhi)
    (he : sliceA E c.H ti x lo hi K = some r) :
    ∃ v val, K v = some r ∧ VR c v val ∧ (Instr.sliceAt t vx vlo vhi none).run P c.w = .ok val c.w := by
  obtain ⟨d, hd, hk⟩ := h.und
  have bnd : ∀ (n : Nat) (k : Nat → Nat → Option ρ), cutK lo hi n k = some r →
      ∃ l u : Nat, lo.getD 0 = (l : Int) ∧ hi.getD (n : Int) = (u : Int) ∧ l ≤ u ∧ u ≤ n ∧ k l u = some r := by
    intro n k hh
    unfold cutK at hh
    split at hh
    · rename_i hc
      exact ⟨(lo.getD 0).toNat, (hi.getD n).toNat, by omega, by omega, by omega, by omega, hh⟩
    · exact absurd hh (by simp)
  unfold sliceA at he
  split at he
  · rename_i s hkd
    rw [hkd] at hk
    simp only [TkOk] at hk
    subst hk
    obtain ⟨l, u, e1, e2, hlu, hu, hK⟩ := bnd _ _ he
    rw [VR] at hx
    have e := dStr_inv hx
    subst e
    refine ⟨_, _, hK, dV (dStr _), ?_⟩
    have hs : (⟨s.toArray⟩ : ByteArray).size = s.length := by rw [Lib.size_eq]
    have hb := run_sliceBounds (P := P) (w := c.w) (isS := false) (cap := s.length) h1 h2 e1 e2 hlu hu
    have hex : (⟨s.toArray⟩ : ByteArray).extract l u = ⟨(cutL s l u).toArray⟩ := by
      rw [Lib.extract_eq]
      congr 2
      unfold cutL
      rw [List.drop_take]
    simp only [Instr.sliceAt, Sem.run_bind, run_underlying hd, Result.andThen_ok, Instr.slice, Option.isSome_none, Bool.false_eq_true, if_false, hs, hb, Sem.run_pure, hex]
  · rename_i e τ xs hkd
    obtain ⟨hel, he⟩ := bif_some he
    have hz := elemOk_sound hE hel
    rw [hkd] at hk
    simp only [TkOk] at hk
    subst hk
    obtain ⟨l, u, e1, e2, hlu, hu, hK⟩ := bnd _ _ he
    rw [VR] at hx
    obtain ⟨a, cap, rfl, hcap, hne⟩ := dSl_inv hx
    refine ⟨_, _, hK, dV (DV_sub hcap rfl hne hlu hu), ?_⟩
    have hb := run_sliceBounds (P := P) (w := c.w) (isS := true) (cap := cap) h1 h2 e1 e2 hlu (by omega)
    simp only [Instr.sliceAt, Sem.run_bind, run_underlying hd, Result.andThen_ok, Instr.slice, hb, hz, Sem.run_pure]
  · rename_i e hkd
    obtain ⟨hel, he⟩ := bif_some he
    obtain ⟨z, hz⟩ := isTy_sound hE hel
    rw [hkd] at hk
    simp only [TkOk] at hk
    subst hk
    obtain ⟨l, u, e1, e2, hlu, hu, hK⟩ := bnd _ _ he
    rw [VR] at hx
    subst hx
    have hl0 : l = 0 := by omega
    have hu0 : u = 0 := by omega
    subst hl0 hu0
    refine ⟨_, _, hK, by rw [VR], ?_⟩
    have hb := run_sliceBounds (P := P) (w := c.w) (isS := true) (len := 0) (cap := 0) h1 h2 e1 e2 hlu (by omega)
    simp only [Instr.sliceAt, Sem.run_bind, run_underlying hd, Result.andThen_ok, Instr.slice, hb, hz, Sem.run_pure, if_true]
  · rename_i e b ver off len hkd
    rw [hkd] at hk
    simp only [TkOk] at hk
    subst hk
    split at he
    · rename_i e' τ xs u0 hb
      split at he
      · rename_i hver
        subst hver
        obtain ⟨hel, he⟩ := bif_some he
        have hz := elemOk_sound hE hel
        obtain ⟨l, u, e1, e2, hlu, hu, hK⟩ := bnd _ _ he
        rw [VR] at hx
        obtain ⟨hle, hk⟩ := hx.2.2 e' τ xs ver hb
        obtain ⟨k1, k2, rfl⟩ := hk rfl
        have hbd := run_sliceBounds (P := P) (w := c.w) (isS := true) (cap := c.caps.getD b 0 - off) h1 h2 e1 e2 hlu (by omega)
        have run : (Instr.sliceAt t (.slice (some ⟨c.bs.getD b 0, off * τ.sz, none⟩) len (c.caps.getD b 0 - off)) vlo vhi none).run P c.w =
            .ok (.slice (if c.caps.getD b 0 - off = l then some ⟨c.bs.getD b 0, off * τ.sz, none⟩ else (some (⟨c.bs.getD b 0, off * τ.sz, none⟩ : Addr)).map (·.add (l * τ.sz))) (u - l) (c.caps.getD b 0 - off - l)) c.w := by
          simp only [Instr.sliceAt, Sem.run_bind, run_underlying hd, Result.andThen_ok, Instr.slice, hbd, hz, Sem.run_pure]
        have uniq : ∀ e1 t1 xs1 u1, c.H[b]? = some (.row e1 t1 xs1 u1) → t1 = τ ∧ u1 = ver ∧ xs1.length = xs.length := by
          intro e1 t1 xs1 u1 hb'
          rw [hb] at hb'
          injection hb' with hb'
          injection hb' with q1 q2 q3 q4
          subst q2
          have q3' := eq_of_heq q3
          subst q3'
          exact ⟨rfl, q4.symm, rfl⟩
        split at hK
        · rename_i hl0
          subst hl0
          refine ⟨_, _, hK, ?_, run⟩
          rw [VR]
          refine ⟨?_, hx.2.1, fun e1 t1 xs1 u1 hb' => ?_⟩
          · split
            · exact ⟨_, _, _, rfl⟩
            · exact ⟨_, _, _, rfl⟩
          · obtain ⟨rfl, rfl, hl⟩ := uniq _ _ _ _ hb'
            refine ⟨Nat.le_refl _, fun _ => ⟨by omega, by omega, ?_⟩⟩
            split
            · simp
            · simp [Addr.add]
        · rename_i hl0
          split at hK
          · rename_i hltu
            refine ⟨_, _, hK, ?_, run⟩
            rw [VR, if_neg (by omega)]
            refine ⟨⟨_, _, _, rfl⟩, hx.2.1, fun e1 t1 xs1 u1 hb' => ?_⟩
            obtain ⟨rfl, rfl, hl⟩ := uniq _ _ _ _ hb'
            refine ⟨Nat.le_refl _, fun _ => ⟨by omega, by omega, ?_⟩⟩
            simp only [Option.map_some, add_zero_addr, Value.slice.injEq, Option.some.injEq, Addr.mk.injEq, true_and, and_true]
            exact ⟨by rw [Nat.add_mul], by omega⟩
          · have hul : u - l = 0 := by omega
            refine ⟨_, _, hK, dV ⟨[_], ⟨_, _, by rw [hul]; rfl, Nat.zero_le _, fun h => absurd rfl h⟩, rfl⟩, run⟩
      · exact absurd he (by simp)
    · exact absurd he (by simp)
  · rename_i n e b i hkd
    rw [hkd] at hk
    simp only [TkOk] at hk
    subst hk
    split at he
    · rename_i us hb
      split at he
      · rename_i m τ xs hui
        split at he
        · rename_i hmn
          subst hmn
          obtain ⟨hel, he⟩ := bif_some he
          obtain ⟨z, hz⟩ := isTy_sound hE hel
          obtain ⟨l, u, e1, e2, hlu, hu, hK⟩ := bnd _ _ he
          split at hK
          · rename_i hl0
            subst hl0
            rw [VR] at hx
            obtain ⟨hx1, rfl⟩ := hx.2.2 us hb
            have hbd := run_sliceBounds (P := P) (w := c.w) (isS := false) (cap := m) h1 h2 e1 e2 hlu (by omega)
            have hs' : (us.map shp)[i]? = some (some (m, τ)) := by rw [List.getElem?_map, hui]; rfl
            refine ⟨_, .slice (some ⟨c.bs.getD b 0, soff (us.map shp) i, none⟩) u m, hK, ?_, ?_⟩
            · rw [VR]
              refine ⟨⟨_, _, _, rfl⟩, hx.2.1, fun us' hb' => ?_⟩
              rw [hb] at hb'
              injection hb' with hb'
              injection hb' with hb'
              subst hb'
              exact ⟨m, τ, m, hs', by omega, hu, by simp⟩
            · simp only [Instr.sliceAt, Sem.run_bind, run_underlying hd, Result.andThen_ok, Instr.sureAddr, Sem.run_pure, hbd, hz, Nat.zero_mul, Nat.sub_zero]
              congr 2
              split <;> rfl
          · exact absurd hK (by simp)
        · exact absurd he (by simp)
      · exact absurd he (by simp)
    · exact absurd he (by simp)
  · rename_i n e τ x q hkd
    rw [hkd] at hk
    simp only [TkOk] at hk
    subst hk
    split at he
    · rename_i m τ' xs hui
      split at he
      · rename_i hmn
        subst hmn
        obtain ⟨hel, he⟩ := bif_some he
        obtain ⟨z, hz⟩ := isTy_sound hE hel
        obtain ⟨l, u, e1, e2, hlu, hu, hK⟩ := bnd _ _ he
        split at hK
        · rename_i hl0
          subst hl0
          rw [VR] at hx
          obtain ⟨b, o, cs, rfl, hok, hd', ha⟩ := hx
          obtain ⟨ds, hl, hch, ha'⟩ := ce_unit hui hd' ha
          have hbd := run_sliceBounds (P := P) (w := c.w) (isS := false) (cap := m) h1 h2 e1 e2 hlu (by omega)
          have hdv := DV_sub (c := c) (a := some ⟨b, o + soff (tsh τ) q, none⟩) (cap := m) (l := 0) (u := u) (n := m) (by omega) hl.symm (fun _ => ⟨b, _, ds, rfl, hok, hch, ha'⟩) (by omega) (by omega)
          refine ⟨_, _, hK, dV hdv, ?_⟩
          simp only [Instr.sliceAt, Sem.run_bind, run_underlying hd, Result.andThen_ok, Instr.sureAddr, Sem.run_pure, hbd, hz, Nat.zero_mul, Nat.sub_zero]
          congr 2
          split <;> simp [Addr.add]
        · exact absurd hK (by simp)
      · exact absurd he (by simp)
    · exact absurd he (by simp)
  · exact absurd he (by simp)

end
end Go.Fy

set_option linter.unusedVariables false
namespace Go.Fy
open Go.RowKit

/-- The run goes on. -/
structure Mv (w0 : World) (c c' : Cx) : Prop where
  rel : Rel w0 c'
  ext : Ext c c'
  ok0 : c'.ok0 = c.ok0

theorem Mv.refl {w0 : World} {c : Cx} (h : Rel w0 c) : Mv w0 c c := ⟨h, Ext.refl c, rfl⟩
theorem Mv.trans {w0 : World} {c c' c'' : Cx} (h : Mv w0 c c') (k : Mv w0 c' c'') : Mv w0 c c'' := ⟨k.rel, h.ext.trans k.ext, k.ok0.trans h.ok0⟩

section
variable {P : Program} {E : Env} {t : Nat} {ti : TI} {c : Cx} {ρ : Type} {r : ρ}

theorem push_at (c : Cx) (o : Obj) (x : Blk) (cap : Nat) : (c.push o x cap).H[c.H.length]? = some x := by simp [Cx.push]
theorem push_bs {w0 : World} (h : Rel w0 c) (o : Obj) (x : Blk) (cap : Nat) : (c.push o x cap).bs.getD c.H.length 0 = c.w.heap.size := by
  simp only [Cx.push]
  rw [← h.len]
  exact getD_append_at _ _
theorem push_caps {w0 : World} (h : Rel w0 c) (o : Obj) (x : Blk) (cap : Nat) : (c.push o x cap).caps.getD c.H.length 0 = cap := by
  simp only [Cx.push]
  rw [← h.lenc]
  exact getD_append_at _ _

/-- A new variable's block. -/
theorem push_cells {w0 : World} (h : Rel w0 c) {us : List PV} {cs : List Value} (hu : URs c us cs) (hw : ∀ u ∈ us, wfU u = true) (e : Nat) :
    Mv w0 c (c.push (.cells cs.toArray e (0, 0)) (.cells us) 0) ∧ VR (c.push (.cells cs.toArray e (0, 0)) (.cells us) 0) (.pt c.H.length 0) (.pointer (some ⟨c.w.heap.size, 0, none⟩)) := by
  have hext := push_ext h (.cells cs.toArray e (0, 0)) (.cells us) 0
  have hb := push_bs h (.cells cs.toArray e (0, 0)) (.cells us) 0
  refine ⟨⟨push_rel h _ _ 0 ?_, hext, rfl⟩, ?_⟩
  · refine ⟨cs, e, ?_, URs.ext hext us cs hu, hw⟩
    rw [hb]
    exact heap_alloc_new _ _
  · rw [VR]
    refine ⟨⟨_, rfl⟩, by simp [Cx.push], fun us' hx => ?_⟩
    rw [push_at] at hx
    injection hx with hx
    injection hx with hx
    subst hx
    exact ⟨Nat.zero_le _, by rw [hb]; rfl⟩

/-- A new row's block. -/
theorem push_row {w0 : World} (h : Rel w0 c) {τ : Ty} {xs : List τ.den} {cs rest : List Value} (hc : Chain (DC c.w c.ok τ) xs cs) (hz : 0 < τ.sz) {cap : Nat} (hl : (cs ++ rest).length = cap * τ.sz)
    (h1 : xs.length ≤ cap) (h2 : cap ≤ maxLen) (e : Nat) :
    Mv w0 c (c.push (.cells (cs ++ rest).toArray e (0, 0)) (.row e τ xs 0) cap) ∧
      VR (c.push (.cells (cs ++ rest).toArray e (0, 0)) (.row e τ xs 0) cap) (.ro c.H.length 0 0 xs.length) (.slice (some ⟨c.w.heap.size, 0, none⟩) xs.length cap) := by
  have hext := push_ext h (.cells (cs ++ rest).toArray e (0, 0)) (.row e τ xs 0) cap
  have hb := push_bs h (.cells (cs ++ rest).toArray e (0, 0)) (.row e τ xs 0) cap
  have hcp := push_caps h (.cells (cs ++ rest).toArray e (0, 0)) (.row e τ xs 0) cap
  refine ⟨⟨push_rel h _ _ cap ?_, hext, rfl⟩, ?_⟩
  · refine ⟨cs, rest, ?_, Chain.mono (fun x cs => DC.keeps hext.keeps τ x cs) xs cs hc, hz, by rw [hcp]; exact hl, by rw [hcp]; exact h1, by rw [hcp]; exact h2⟩
    rw [hb]
    exact heap_alloc_new _ _
  · rw [VR]
    refine ⟨⟨_, _, _, rfl⟩, by simp [Cx.push], fun e' t' xs' u' hx => ?_⟩
    rw [push_at] at hx
    injection hx with hx
    cases hx
    refine ⟨Nat.le_refl _, fun _ => ⟨by omega, by rw [hcp]; exact h1, ?_⟩⟩
    rw [hb, hcp, Nat.zero_mul, Nat.sub_zero]

theorem alloc_sound {w0 : World} (h : TOk P E t ti) (hr : Rel w0 c) (hw : ti.zero.all wfU = true) :
    ∃ c' v, (Instr.alloc t true (.tuple #[])).run P c.w = .ok v c'.w ∧ Mv w0 c c' ∧ c'.H = c.H ++ [.cells ti.zero] ∧ VR c' (.pt c.H.length 0) v := by
  obtain ⟨i, z, hi, hs, hby, hz, hzz, hu, _⟩ := h.inf
  obtain ⟨h1, h2⟩ := push_cells hr (hu c) (fun u hu => List.all_eq_true.1 hw u hu) t
  refine ⟨_, _, ?_, h1, rfl, h2⟩
  simp [Instr.alloc, zeroValue, typeInfo, hi, hz, newVar, newRow, Cx.push]

theorem box_sound {w0 : World} (h : TOk P E t ti) (hr : Rel w0 c) {v : PV} {vv : Value} {us : List PV} (hus : unitsOf ti v = some us) (hk : us.all known = true) (hv : VR c v vv) :
    ∃ c' p, (Instr.box t vv).run P c.w = .ok p c'.w ∧ Mv w0 c c' ∧ c'.H = c.H ++ [.cells us] ∧ VR c' (.pt c.H.length 0) p := by
  obtain ⟨hu, hsh, hw, hone⟩ := unitsOf_sound h hus hk hv
  obtain ⟨h1, h2⟩ := push_cells hr hu hw t
  refine ⟨_, _, ?_, h1, rfl, h2⟩
  simp [Instr.box, newVar, newRow, Cx.push]

theorem extract_sound (w : World) {vs : List PV} {v : PV} {tv : Value} {i : Nat} (h : VR c (.tu vs) tv) (hi : vs[i]? = some v) : ∃ x, VR c v x ∧ (Instr.extract tv i).run P w = .ok x w := by
  rw [VR] at h
  obtain ⟨l, rfl, hl⟩ := h
  have key : ∀ (vs : List PV) (l : List Value) (i : Nat), VRs c vs l → vs[i]? = some v → ∃ x, l[i]? = some x ∧ VR c v x := by
    intro vs
    induction vs with
    | nil => intro l i _ hi; simp at hi
    | cons p ps ih =>
      intro l i hl hi
      rw [VRs] at hl
      obtain ⟨y, q, rfl, h1, h2⟩ := hl
      cases i with
      | zero => simp at hi; subst hi; exact ⟨y, rfl, h1⟩
      | succ i => exact ih q i h2 (by simpa using hi)
  obtain ⟨x, hx, hv⟩ := key vs l i hl hi
  refine ⟨x, hv, ?_⟩
  simp [Instr.extract, hx]

theorem lenA_sound (hE : EnvOk P E) (h : TOk P E t ti) (ats : Array Nat) (ha : ats[0]? = some t) (ty : Nat) {x : PV} {vx : Value} {n : Nat} (hx : VR c x vx) (he : lenA E c.H ti x = some n) :
    (Builtin.len_ ats ty #[vx]).run P c.w = .ok (.int .i64 n) c.w := by
  obtain ⟨d, hd, hk⟩ := h.und
  unfold lenA at he
  split at he
  · rename_i s hkd
    rw [hkd] at hk
    injection he with he
    subst he
    rw [VR] at hx
    rw [dStr_inv hx]
    simp only [TkOk] at hk
    subst hk
    simp [Builtin.len_, ha, run_underlying hd, goInt]
    rfl
  · rename_i e τ xs hkd
    rw [hkd] at hk
    injection he with he
    subst he
    rw [VR] at hx
    obtain ⟨a, cap, rfl, _⟩ := dSl_inv hx
    simp only [TkOk] at hk
    subst hk
    simp [Builtin.len_, ha, run_underlying hd, goInt]
  · rename_i e hkd
    rw [hkd] at hk
    injection he with he
    subst he
    rw [VR] at hx
    subst hx
    simp only [TkOk] at hk
    subst hk
    simp [Builtin.len_, ha, run_underlying hd, goInt]
  · rename_i e b ver off len hkd
    rw [hkd] at hk
    simp only [TkOk] at hk
    subst hk
    split at he
    · rename_i e' t' xs u hb
      split at he
      · rename_i hv
        injection he with he
        subst he
        rw [VR] at hx
        obtain ⟨_, hx⟩ := hx.2.2 _ _ _ _ hb
        obtain ⟨_, _, rfl⟩ := hx hv
        simp [Builtin.len_, ha, run_underlying hd, goInt]
      · exact absurd he (by simp)
    · exact absurd he (by simp)
  · rename_i e b i off len hkd
    rw [hkd] at hk
    simp only [TkOk] at hk
    subst hk
    split at he
    · rename_i us hb
      injection he with he
      subst he
      rw [VR] at hx
      obtain ⟨_, _, _, _, _, _, rfl⟩ := hx.2.2 _ hb
      simp [Builtin.len_, ha, run_underlying hd, goInt]
    · exact absurd he (by simp)
  · rename_i m e x hkd
    rw [hkd] at hk
    simp only [TkOk] at hk
    subst hk
    injection he with he
    subst he
    cases vx <;> simp [Builtin.len_, ha, run_underlying hd, goInt]
  · rename_i px e hkd
    rw [hkd] at hk
    simp only [TkOk] at hk
    subst hk
    split at he
    · rename_i m e' hkk
      injection he with he
      subst he
      unfold kindOf at hkk
      split at hkk
      · rename_i te hte
        obtain ⟨d', hd', hk'⟩ := (hE.tt e te hte).und
        rw [hkk] at hk'
        simp only [TkOk] at hk'
        subst hk'
        cases vx <;> simp [Builtin.len_, ha, run_underlying hd, run_underlying hd', goInt]
      · exact absurd hkk (by simp)
    · exact absurd he (by simp)
  · exact absurd he (by simp)

end
end Go.Fy

