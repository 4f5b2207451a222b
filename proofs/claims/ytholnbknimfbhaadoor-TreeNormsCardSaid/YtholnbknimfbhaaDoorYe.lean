/-
  The contract of tree.Norm; condition: a working directory of fewer than a hundred million bytes.
-/
import Derived.Shelf.Strings.OnBuilder
import Derived.Test.YtholnbknimfbhaaDoorProg
import Derived.Test.YtholnbknimfbhaaDoorYd
import Derived.Lib.Join
namespace Go.Proofs
open Go.Shelf
def Tryd.lays156_ren : Go.Shelf.Ren := ⟨fun | 156 => 19 | 165 => 37 | 166 => 38 | 169 => 39 | 240 => 54 | 241 => 55 | 276 => 71 | 277 => 72 | n => n, fun | 31 => 32 | 9 => 9 | 3 => 3 | 4 => 4 | 0 => 0 | 20 => 20 | 72 => 69 | 76 => 73 | 70 => 66 | 37 => 67 | 75 => 72 | 127 => 87 | 164 => 100 | 5 => 5 | 80 => 75 | n => n, fun | n => n⟩
theorem Tryd.lays156 : Go.Proofs.Lays.n156 Tryd.prog Tryd.lays156_ren := {
  mixed := by kernel_rfl
  f156 := Tryd.func19.trans (congrArg some (by kernel_rfl))
  f165 := Tryd.func37.trans (congrArg some (by kernel_rfl))
  f166 := Tryd.func38.trans (congrArg some (by kernel_rfl))
  f169 := Tryd.func39.trans (congrArg some (by kernel_rfl))
  f240 := Tryd.func54.trans (congrArg some (by kernel_rfl))
  f241 := Tryd.func55.trans (congrArg some (by kernel_rfl))
  f276 := Tryd.func71.trans (congrArg some (by kernel_rfl))
  f277 := Tryd.func72.trans (congrArg some (by kernel_rfl))
  t0 := Tryd.underlying0
  a0 := Tryd.isAgg0
  z0 := Tryd.sizeOf0
  v0 := Tryd.zeroValue0
  t3 := Tryd.underlying3
  a3 := Tryd.isAgg3
  z3 := Tryd.sizeOf3
  v3 := Tryd.zeroValue3
  t4 := Tryd.underlying4
  a4 := Tryd.isAgg4
  z4 := Tryd.sizeOf4
  v4 := Tryd.zeroValue4
  t9 := Tryd.underlying9
  a9 := Tryd.isAgg9
  z9 := Tryd.sizeOf9
  v9 := Tryd.zeroValue9
  t20 := Tryd.underlying20
  a20 := Tryd.isAgg20
  z20 := Tryd.sizeOf20
  v20 := Tryd.zeroValue20
  t31 := Tryd.underlying32
  a31 := Tryd.isAgg32
  z31 := Tryd.sizeOf32
  v31 := Tryd.zeroValue32
  t37 := Tryd.underlying67
  a37 := Tryd.isAgg67
  z37 := Tryd.sizeOf67
  v37 := Tryd.zeroValue67
  t70 := Tryd.underlying66
  a70 := Tryd.isAgg66
  z70 := Tryd.sizeOf66
  v70 := Tryd.zeroValue66
  t72 := Tryd.underlying69
  a72 := Tryd.isAgg69
  z72 := Tryd.sizeOf69
  v72 := Tryd.zeroValue69
  t75 := Tryd.underlying72
  a75 := Tryd.isAgg72
  z75 := Tryd.sizeOf72
  v75 := Tryd.zeroValue72
  t76 := Tryd.underlying73
  a76 := Tryd.isAgg73
  z76 := Tryd.sizeOf73
  v76 := Tryd.zeroValue73
  t127 := Tryd.underlying87
  a127 := Tryd.isAgg87
  z127 := Tryd.sizeOf87
  v127 := Tryd.zeroValue87
  t164 := Tryd.underlying100
  a164 := Tryd.isAgg100
  z164 := Tryd.sizeOf100
  v164 := Tryd.zeroValue100 }
theorem Tryd.Builder_Extra_156 : Builder.Extra Tryd.prog Tryd.lays156_ren := {
  sizeBuilder := by kernel_rfl
  liesBuilder := by kernel_rfl
  t5 := Tryd.underlying5
  a5 := Tryd.isAgg5
  z5 := Tryd.sizeOf5
  v5 := Tryd.zeroValue5
  infoByte := by kernel_rfl
  cellsByte := by kernel_rfl
  sizeByte := by kernel_rfl
  neB5 := by decide }
open Go.RowKit in
/-- No element: the empty string; the world is as it was. (Whatever the slice's address and capacity: a nil slice too.) (LAID: no walk: one application.) -/
theorem Tryd.strings_Join_none (a : Option Addr) (c : Nat) (sep : ByteArray) (w : World) :
    Calls Tryd.prog 19 #[.slice a 0 c, .string sep] w fun e w' => e = .returned (.string ⟨#[]⟩) ∧ w' = w := Any.strings_Join_none Tryd.lays156 Tryd.Builder_Extra_156 a c sep w
open Go.RowKit in
/-- strings.Join: "Join concatenates the elements of its first argument to create a single string. The separator string sep is placed between elements in the resulting string.": HOWEVER MANY ELEMENTS. Below the heap's end the world is as it was. (LAID: no walk: one application.) -/
theorem Tryd.strings_Join (bk o c : Nat) (xs : List ByteArray) (sep : ByteArray) (w : World) (hcells : ∀ (j : Nat) x, xs[j]? = some x → w.cell? ⟨bk, o + j, none⟩ = some (.string x)) (hbk : bk < w.heap.size) (hN : xs.length ≤ 140737488355328) (hcap : xs.length ≤ c) (hlen : (Lib.join (xs.map (·.data.toList)) sep.data.toList).length ≤ 140737488355328) :
    Calls Tryd.prog 19 #[.slice (some ⟨bk, o, none⟩) xs.length c, .string sep] w fun e w' => e = .returned (.string ⟨(Lib.join (xs.map (·.data.toList)) sep.data.toList).toArray⟩) ∧ Below w.heap.size w w' := Any.strings_Join Tryd.lays156 Tryd.Builder_Extra_156 bk o c xs sep w hcells hbk hN hcap hlen
def Tryd.lays137_ren : Go.Shelf.Ren := ⟨fun | 137 => 80 | 217 => 87 | 266 => 90 | n => n, fun | 9 => 9 | 5 => 5 | 3 => 3 | n => n, fun | n => n⟩
theorem Tryd.lays137 : Go.Proofs.Lays.n137 Tryd.prog Tryd.lays137_ren := {
  mixed := by kernel_rfl
  f137 := Tryd.func80.trans (congrArg some (by kernel_rfl))
  f217 := Tryd.func87.trans (congrArg some (by kernel_rfl))
  f266 := Tryd.func90.trans (congrArg some (by kernel_rfl))
  t3 := Tryd.underlying3
  a3 := Tryd.isAgg3
  z3 := Tryd.sizeOf3
  v3 := Tryd.zeroValue3
  t5 := Tryd.underlying5
  a5 := Tryd.isAgg5
  z5 := Tryd.sizeOf5
  v5 := Tryd.zeroValue5
  t9 := Tryd.underlying9
  a9 := Tryd.isAgg9
  z9 := Tryd.sizeOf9
  v9 := Tryd.zeroValue9 }
def Tryd.lays195_ren : Go.Shelf.Ren := ⟨fun | 195 => 76 | n => n, fun | 9 => 9 | 3 => 3 | 0 => 0 | 4 => 4 | n => n, fun | n => n⟩
theorem Tryd.lays195 : Go.Proofs.Lays.n195 Tryd.prog Tryd.lays195_ren := {
  mixed := by kernel_rfl
  f195 := Tryd.func76.trans (congrArg some (by kernel_rfl))
  t0 := Tryd.underlying0
  a0 := Tryd.isAgg0
  z0 := Tryd.sizeOf0
  v0 := Tryd.zeroValue0
  t3 := Tryd.underlying3
  a3 := Tryd.isAgg3
  z3 := Tryd.sizeOf3
  v3 := Tryd.zeroValue3
  t4 := Tryd.underlying4
  a4 := Tryd.isAgg4
  z4 := Tryd.sizeOf4
  v4 := Tryd.zeroValue4
  t9 := Tryd.underlying9
  a9 := Tryd.isAgg9
  z9 := Tryd.sizeOf9
  v9 := Tryd.zeroValue9 }
def Tryd.lays217_ren : Go.Shelf.Ren := ⟨fun | 217 => 87 | 266 => 90 | n => n, fun | 9 => 9 | 5 => 5 | 3 => 3 | n => n, fun | n => n⟩
theorem Tryd.lays217 : Go.Proofs.Lays.n217 Tryd.prog Tryd.lays217_ren := {
  mixed := by kernel_rfl
  f217 := Tryd.func87.trans (congrArg some (by kernel_rfl))
  f266 := Tryd.func90.trans (congrArg some (by kernel_rfl))
  t3 := Tryd.underlying3
  a3 := Tryd.isAgg3
  z3 := Tryd.sizeOf3
  v3 := Tryd.zeroValue3
  t5 := Tryd.underlying5
  a5 := Tryd.isAgg5
  z5 := Tryd.sizeOf5
  v5 := Tryd.zeroValue5
  t9 := Tryd.underlying9
  a9 := Tryd.isAgg9
  z9 := Tryd.sizeOf9
  v9 := Tryd.zeroValue9 }
def Tryd.lays219_ren : Go.Shelf.Ren := ⟨fun | 219 => 79 | 217 => 87 | 225 => 83 | 224 => 82 | 267 => 88 | 266 => 90 | 314 => 91 | n => n, fun | 9 => 9 | 3 => 3 | 4 => 4 | 5 => 5 | 46 => 88 | 146 => 116 | 51 => 115 | n => n, fun | 1 => 0 | n => n⟩
theorem Tryd.lays219 : Go.Proofs.Lays.n219 Tryd.prog Tryd.lays219_ren := {
  mixed := by kernel_rfl
  f217 := Tryd.func87.trans (congrArg some (by kernel_rfl))
  f219 := Tryd.func79.trans (congrArg some (by kernel_rfl))
  f224 := Tryd.func82.trans (congrArg some (by kernel_rfl))
  f225 := Tryd.func83.trans (congrArg some (by kernel_rfl))
  f266 := Tryd.func90.trans (congrArg some (by kernel_rfl))
  f267 := Tryd.func88.trans (congrArg some (by kernel_rfl))
  f314 := Tryd.func91.trans (congrArg some (by kernel_rfl))
  t3 := Tryd.underlying3
  a3 := Tryd.isAgg3
  z3 := Tryd.sizeOf3
  v3 := Tryd.zeroValue3
  t4 := Tryd.underlying4
  a4 := Tryd.isAgg4
  z4 := Tryd.sizeOf4
  v4 := Tryd.zeroValue4
  t5 := Tryd.underlying5
  a5 := Tryd.isAgg5
  z5 := Tryd.sizeOf5
  v5 := Tryd.zeroValue5
  t9 := Tryd.underlying9
  a9 := Tryd.isAgg9
  z9 := Tryd.sizeOf9
  v9 := Tryd.zeroValue9
  t46 := Tryd.underlying88
  a46 := Tryd.isAgg88
  z46 := Tryd.sizeOf88
  v46 := Tryd.zeroValue88
  t51 := Tryd.underlying115
  a51 := Tryd.isAgg115
  z51 := Tryd.sizeOf115
  v51 := Tryd.zeroValue115
  t146 := Tryd.underlying116
  a146 := Tryd.isAgg116
  z146 := Tryd.sizeOf116
  v146 := Tryd.zeroValue116
  g1 := by kernel_rfl }
def Tryd.lays143_ren : Go.Shelf.Ren := ⟨fun | 143 => 66 | 219 => 79 | 217 => 87 | 225 => 83 | 224 => 82 | 267 => 88 | 266 => 90 | 314 => 91 | n => n, fun | 9 => 9 | 3 => 3 | 4 => 4 | 5 => 5 | 46 => 88 | 146 => 116 | 51 => 115 | n => n, fun | 1 => 0 | n => n⟩
theorem Tryd.lays143 : Go.Proofs.Lays.n143 Tryd.prog Tryd.lays143_ren := {
  mixed := by kernel_rfl
  f143 := Tryd.func66.trans (congrArg some (by kernel_rfl))
  f217 := Tryd.func87.trans (congrArg some (by kernel_rfl))
  f219 := Tryd.func79.trans (congrArg some (by kernel_rfl))
  f224 := Tryd.func82.trans (congrArg some (by kernel_rfl))
  f225 := Tryd.func83.trans (congrArg some (by kernel_rfl))
  f266 := Tryd.func90.trans (congrArg some (by kernel_rfl))
  f267 := Tryd.func88.trans (congrArg some (by kernel_rfl))
  f314 := Tryd.func91.trans (congrArg some (by kernel_rfl))
  t3 := Tryd.underlying3
  a3 := Tryd.isAgg3
  z3 := Tryd.sizeOf3
  v3 := Tryd.zeroValue3
  t4 := Tryd.underlying4
  a4 := Tryd.isAgg4
  z4 := Tryd.sizeOf4
  v4 := Tryd.zeroValue4
  t5 := Tryd.underlying5
  a5 := Tryd.isAgg5
  z5 := Tryd.sizeOf5
  v5 := Tryd.zeroValue5
  t9 := Tryd.underlying9
  a9 := Tryd.isAgg9
  z9 := Tryd.sizeOf9
  v9 := Tryd.zeroValue9
  t46 := Tryd.underlying88
  a46 := Tryd.isAgg88
  z46 := Tryd.sizeOf88
  v46 := Tryd.zeroValue88
  t51 := Tryd.underlying115
  a51 := Tryd.isAgg115
  z51 := Tryd.sizeOf115
  v51 := Tryd.zeroValue115
  t146 := Tryd.underlying116
  a146 := Tryd.isAgg116
  z146 := Tryd.sizeOf116
  v146 := Tryd.zeroValue116
  g1 := by kernel_rfl }
def Tryd.lays138_ren : Go.Shelf.Ren := ⟨fun | 138 => 65 | 195 => 76 | 218 => 78 | 143 => 66 | 219 => 79 | 217 => 87 | 225 => 83 | 224 => 82 | 267 => 88 | 266 => 90 | 314 => 91 | n => n, fun | 9 => 9 | 3 => 3 | 4 => 4 | 5 => 5 | 0 => 0 | 46 => 88 | 146 => 116 | 51 => 115 | n => n, fun | 1 => 0 | n => n⟩
theorem Tryd.lays138 : Go.Proofs.Lays.n138 Tryd.prog Tryd.lays138_ren := {
  mixed := by kernel_rfl
  f138 := Tryd.func65.trans (congrArg some (by kernel_rfl))
  f143 := Tryd.func66.trans (congrArg some (by kernel_rfl))
  f195 := Tryd.func76.trans (congrArg some (by kernel_rfl))
  f217 := Tryd.func87.trans (congrArg some (by kernel_rfl))
  f218 := Tryd.func78.trans (congrArg some (by kernel_rfl))
  f219 := Tryd.func79.trans (congrArg some (by kernel_rfl))
  f224 := Tryd.func82.trans (congrArg some (by kernel_rfl))
  f225 := Tryd.func83.trans (congrArg some (by kernel_rfl))
  f266 := Tryd.func90.trans (congrArg some (by kernel_rfl))
  f267 := Tryd.func88.trans (congrArg some (by kernel_rfl))
  f314 := Tryd.func91.trans (congrArg some (by kernel_rfl))
  t0 := Tryd.underlying0
  a0 := Tryd.isAgg0
  z0 := Tryd.sizeOf0
  v0 := Tryd.zeroValue0
  t3 := Tryd.underlying3
  a3 := Tryd.isAgg3
  z3 := Tryd.sizeOf3
  v3 := Tryd.zeroValue3
  t4 := Tryd.underlying4
  a4 := Tryd.isAgg4
  z4 := Tryd.sizeOf4
  v4 := Tryd.zeroValue4
  t5 := Tryd.underlying5
  a5 := Tryd.isAgg5
  z5 := Tryd.sizeOf5
  v5 := Tryd.zeroValue5
  t9 := Tryd.underlying9
  a9 := Tryd.isAgg9
  z9 := Tryd.sizeOf9
  v9 := Tryd.zeroValue9
  t46 := Tryd.underlying88
  a46 := Tryd.isAgg88
  z46 := Tryd.sizeOf88
  v46 := Tryd.zeroValue88
  t51 := Tryd.underlying115
  a51 := Tryd.isAgg115
  z51 := Tryd.sizeOf115
  v51 := Tryd.zeroValue115
  t146 := Tryd.underlying116
  a146 := Tryd.isAgg116
  z146 := Tryd.sizeOf116
  v146 := Tryd.zeroValue116
  g1 := by kernel_rfl }
end Go.Proofs

set_option linter.unusedVariables false
set_option linter.unusedSimpArgs false
open Go.Proofs
namespace Go.Proofs.YtholnbknimfbhaaDoor
open Go Go.Fy Go.RowKit

def joinS (xs : List (List UInt8)) : List UInt8 := [47].intercalate xs

theorem chain_str {w : World} {ok : Nat → Prop} : ∀ (xs : List (List UInt8)) (ds : List Value), Chain (DC w ok .str) xs ds → ds = xs.map fun x => .string ⟨x.toArray⟩
  | [], ds, h => h
  | x :: xs, ds, ⟨a, b, e, hx, hb⟩ => by
    have hx : a = [.string ⟨x.toArray⟩] := hx
    rw [e, hx, chain_str xs b hb]
    rfl

noncomputable def cJoin : CP := { args := [.sl .str, .str], res := [.str], pre := fun xs => decide (xs.2.1 = [47]) && (decide (xs.1.length ≤ 100000000) && decide ((joinS xs.1).length ≤ 140737488355328)), spec := fun xs => (joinS xs.1, ()) }

theorem joinOk : CpOk Tryd.prog gl 19 cJoin := by
  intro w ok xs vs o hlt hg hv hf
  obtain ⟨xs, sep, u⟩ := xs
  have hf : (bif decide (sep = [47]) && (decide (xs.length ≤ 100000000) && decide ((joinS xs).length ≤ 140737488355328)) then some (Out.ret (joinS xs, ())) else none) = some o := hf
  cases hp : decide (sep = [47]) && (decide (xs.length ≤ 100000000) && decide ((joinS xs).length ≤ 140737488355328)) with
  | false => rw [hp] at hf; cases hf
  | true =>
    rw [hp] at hf
    injection hf with hf
    subst hf
    simp only [Bool.and_eq_true, decide_eq_true_eq] at hp
    obtain ⟨h1, h2, h3⟩ := hp
    subst h1
    obtain ⟨v, r, rfl, h4, v2, r2, rfl, h5, h6⟩ := hv
    have h6 : r2 = [] := h6
    subst h6
    obtain ⟨a, cap, rfl, hcap, hrow⟩ := dSl_inv h4
    have e5 := dStr_inv h5
    subst e5
    refine .inl ⟨⟨Tryd.f19, Tryd.func19, by decide, rfl⟩, ?_⟩
    have e7 : (List.map (fun x : ByteArray => x.data.toList) (xs.map fun x => (⟨x.toArray⟩ : ByteArray))) = xs := by
      rw [List.map_map]
      conv => rhs; rw [← List.map_id xs]
      rfl
    by_cases hne : xs = []
    · subst hne
      refine (Tryd.strings_Join_none a cap ⟨#[47]⟩ w).mono fun e w' ⟨he, hw⟩ => ?_
      subst hw
      exact ⟨⟨_, he, dStr _⟩, Below.refl _ _⟩
    · obtain ⟨b, off, ds, rfl, hb, hc, hat⟩ := hrow hne
      have hds := chain_str xs ds hc
      have := (Tryd.strings_Join b off cap (xs.map fun x => ⟨x.toArray⟩) ⟨#[47]⟩ w (fun j x hx => by
        apply hat j
        rw [hds]
        rw [List.getElem?_map] at hx ⊢
        cases hj : xs[j]? with
        | none => rw [hj] at hx; cases hx
        | some y => rw [hj] at hx; injection hx with hx; subst hx; rfl) (hlt b hb) (by rw [List.length_map]; omega) (by rw [List.length_map]; omega) (by rw [e7]; exact h3))
      rw [List.length_map, e7] at this
      refine this.mono fun e w' ⟨he, hw⟩ => ⟨⟨_, he, dStr _⟩, hw⟩
end Go.Proofs.YtholnbknimfbhaaDoor

set_option linter.unusedVariables false
set_option linter.unusedSimpArgs false
set_option maxRecDepth 100000
open Go.Proofs
namespace Go.Proofs.YtholnbknimfbhaaDoor
open Go Go.Fy Go.RowKit

noncomputable def P6_0 : SP := { ts := [(.yl 6), .un, .un, .un, .un, .un, (.hole (.sl .str)), (.hole (.int .i64)), (.hole (.int .i64)), .un, .un, .un, .un, .un, .un, .un, .un, .un, .un, .un, .un, .un, .un, .un, .un], h := [(.cells [(.hole .str)]), (.cells [(.hole (.int .i64))]), (.cells [.nsl]), (.cells [(.hole .str)]), (.cells [.nsl]), .defs, (.loop { state := .ready, pending := none, fno := 34, tmps := [.un, .un, (.pt 4 0), .un, .un, .un, .un, .un, .un, .un, .un, .un, .un], params := [7], assign := (subC [1, 0, 1, 0, 0] (bd Tryd.f34)), body := (subC [1, 0, 1, 0, 1] (bd Tryd.f34)) })], df := [] }
noncomputable def P6_1 : SP := { ts := [(.yl 6), .un, .un, .un, .un, .un, (.hole (.sl .str)), (.hole (.int .i64)), (.hole (.int .i64)), .un, .un, .un, .un, .un, .un, .un, .un, .un, .un, .un, .un, .un, .un, .un, .un], h := [(.cells [(.hole .str)]), (.cells [(.hole (.int .i64))]), (.cells [.nsl]), (.cells [(.hole .str)]), (.cells [(.ro 8 .h (.k 0) .h)]), .defs, (.loop { state := .ready, pending := none, fno := 34, tmps := [.un, .un, (.pt 4 0), .un, .un, .un, .un, .un, .un, .un, .un, .un, .un], params := [7], assign := (subC [1, 0, 1, 0, 0] (bd Tryd.f34)), body := (subC [1, 0, 1, 0, 1] (bd Tryd.f34)) }), (.row 9 .str .h), (.row 9 .str .h)], df := [] }
noncomputable def P6_2 : SP := { ts := [(.yl 6), .un, .un, .un, .un, .un, (.hole (.sl .str)), (.hole (.int .i64)), (.hole (.int .i64)), .un, .un, .un, .un, .un, .un, .un, .un, .un, .un, .un, .un, .un, .un, .un, .un], h := [(.cells [(.cs [])]), (.cells [(.ci .i64 (0))]), (.cells [.nsl]), (.cells [(.hole .str)]), (.cells [.nsl]), .defs, (.loop { state := .ready, pending := none, fno := 34, tmps := [.un, .un, (.pt 4 0), .un, .un, .un, .un, .un, .un, .un, .un, .un, .un], params := [7], assign := (subC [1, 0, 1, 0, 0] (bd Tryd.f34)), body := (subC [1, 0, 1, 0, 1] (bd Tryd.f34)) })], df := [] }
noncomputable def P6_3 : SP := { ts := [(.yl 6), .un, .un, .un, .un, .un, (.hole (.sl .str)), (.hole (.int .i64)), (.hole (.int .i64)), .un, .un, .un, .un, .un, .un, .un, .un, .un, .un, .un, .un, .un, .un, .un, .un], h := [(.cells [(.hole .str)]), (.cells [(.hole (.int .i64))]), (.cells [.nsl]), (.cells [(.hole .str)]), (.cells [(.hole .str)]), .defs, (.loop { state := .done, pending := (some .ret), fno := 6, tmps := [.un, .un, .un, .un, (.pt 0 0), (.pt 1 0), (.pt 2 0), .un, .un, .un, .un, .un, .un, .un, .un, .un, .un, .un, .un, .un, .un, .un, .un, .un, .un, .un, .un, .un, .un, .un, .un, .un, .un, .un, .un, .un, .un, .un, .un, .un, .un, .un, .un, .un, .un, .un, .un, .un, .un, .un, .un, .un, .un, .un, .un, .un, .un], params := [28], assign := (subC [1, 1, 1, 1, 0, 1, 0, 0] (bd Tryd.f6)), body := (subC [1, 1, 1, 1, 0, 1, 0, 1] (bd Tryd.f6)) })], df := [] }
noncomputable def P6_4 : SP := { ts := [(.yl 6), .un, .un, .un, .un, .un, (.hole (.sl .str)), (.hole (.int .i64)), (.hole (.int .i64)), .un, .un, .un, .un, .un, .un, .un, .un, .un, .un, .un, .un, .un, .un, .un, .un], h := [(.cells [(.hole .str)]), (.cells [(.hole (.int .i64))]), (.cells [.nsl]), (.cells [(.hole .str)]), (.cells [(.hole .str)]), .defs, (.loop { state := .ready, pending := none, fno := 6, tmps := [.un, .un, .un, .un, (.pt 0 0), (.pt 1 0), (.pt 2 0), .un, .un, .un, .un, .un, .un, .un, .un, .un, .un, .un, .un, .un, .un, .un, .un, .un, .un, .un, .un, .un, .un, .un, .un, .un, .un, .un, .un, .un, .un, .un, .un, .un, .un, .un, .un, .un, .un, .un, .un, .un, .un, .un, .un, .un, .un, .un, .un, .un, .un], params := [28], assign := (subC [1, 1, 1, 1, 0, 1, 0, 0] (bd Tryd.f6)), body := (subC [1, 1, 1, 1, 0, 1, 0, 1] (bd Tryd.f6)) })], df := [] }
noncomputable def P6_5 : SP := { ts := [(.yl 6), .un, .un, .un, .un, .un, (.hole (.sl .str)), (.hole (.int .i64)), (.hole (.int .i64)), .un, .un, .un, .un, .un, .un, .un, .un, .un, .un, .un, .un, .un, .un, .un, .un], h := [(.cells [(.hole .str)]), (.cells [(.hole (.int .i64))]), (.cells [(.ro 8 .h (.k 0) .h)]), (.cells [(.hole .str)]), (.cells [(.hole .str)]), .defs, (.loop { state := .done, pending := (some .ret), fno := 6, tmps := [.un, .un, .un, .un, (.pt 0 0), (.pt 1 0), (.pt 2 0), .un, .un, .un, .un, .un, .un, .un, .un, .un, .un, .un, .un, .un, .un, .un, .un, .un, .un, .un, .un, .un, .un, .un, .un, .un, .un, .un, .un, .un, .un, .un, .un, .un, .un, .un, .un, .un, .un, .un, .un, .un, .un, .un, .un, .un, .un, .un, .un, .un, .un], params := [28], assign := (subC [1, 1, 1, 1, 0, 1, 0, 0] (bd Tryd.f6)), body := (subC [1, 1, 1, 1, 0, 1, 0, 1] (bd Tryd.f6)) }), (.row 9 .str .h), (.row 9 .str .h)], df := [] }
noncomputable def P6_6 : SP := { ts := [(.yl 6), .un, .un, .un, .un, .un, (.hole (.sl .str)), (.hole (.int .i64)), (.hole (.int .i64)), .un, .un, .un, .un, .un, .un, .un, .un, .un, .un, .un, .un, .un, .un, .un, .un], h := [(.cells [(.hole .str)]), (.cells [(.hole (.int .i64))]), (.cells [(.ro 8 .h (.k 0) .h)]), (.cells [(.hole .str)]), (.cells [(.hole .str)]), .defs, (.loop { state := .ready, pending := none, fno := 6, tmps := [.un, .un, .un, .un, (.pt 0 0), (.pt 1 0), (.pt 2 0), .un, .un, .un, .un, .un, .un, .un, .un, .un, .un, .un, .un, .un, .un, .un, .un, .un, .un, .un, .un, .un, .un, .un, .un, .un, .un, .un, .un, .un, .un, .un, .un, .un, .un, .un, .un, .un, .un, .un, .un, .un, .un, .un, .un, .un, .un, .un, .un, .un, .un], params := [28], assign := (subC [1, 1, 1, 1, 0, 1, 0, 0] (bd Tryd.f6)), body := (subC [1, 1, 1, 1, 0, 1, 0, 1] (bd Tryd.f6)) }), (.row 9 .str .h), (.row 9 .str .h)], df := [] }
noncomputable def P6_7 : SP := { ts := [(.yl 6), .un, .un, .un, .un, .un, (.hole (.sl .str)), (.hole (.int .i64)), (.hole (.int .i64)), .un, .un, .un, .un, .un, .un, .un, .un, .un, .un, .un, .un, .un, .un, .un, .un], h := [(.cells [(.cs [])]), (.cells [(.ci .i64 (0))]), (.cells [.nsl]), (.cells [(.hole .str)]), (.cells [(.hole .str)]), .defs, (.loop { state := .ready, pending := none, fno := 6, tmps := [.un, .un, .un, .un, (.pt 0 0), (.pt 1 0), (.pt 2 0), .un, .un, .un, .un, .un, .un, .un, .un, .un, .un, .un, .un, .un, .un, .un, .un, .un, .un, .un, .un, .un, .un, .un, .un, .un, .un, .un, .un, .un, .un, .un, .un, .un, .un, .un, .un, .un, .un, .un, .un, .un, .un, .un, .un, .un, .un, .un, .un, .un, .un], params := [28], assign := (subC [1, 1, 1, 1, 0, 1, 0, 0] (bd Tryd.f6)), body := (subC [1, 1, 1, 1, 0, 1, 0, 1] (bd Tryd.f6)) })], df := [] }
noncomputable def P6_8 : SP := { ts := [(.yl 11), .un, .un, .un, .un, .un, (.hole (.sl .str)), (.hole (.int .i64)), (.hole (.int .i64)), .un, .un, .un, .un, .un, .un, .un, .un, .un, .un, .un, .un, .un, .un, .un, .un], h := [(.cells [(.hole .str)]), (.cells [(.hole (.int .i64))]), (.cells [(.ro 8 .h (.k 0) .h)]), (.cells [(.hole .str)]), (.cells [(.ro 8 .h (.k 0) .h)]), .dead, (.loop { state := .exhausted, pending := none, fno := 34, tmps := [.un, .un, (.pt 4 0), .un, .un, .un, .un, .un, .un, .un, .un, .un, .un], params := [7], assign := (subC [1, 0, 1, 0, 0] (bd Tryd.f34)), body := (subC [1, 0, 1, 0, 1] (bd Tryd.f34)) }), (.row 9 .str .h), (.row 9 .str .h), (.cells [(.hole .str)]), .defs, (.loop { state := .done, pending := (some .ret), fno := 6, tmps := [.un, .un, .un, .un, (.pt 0 0), (.pt 1 0), (.pt 2 0), .un, .un, .un, .un, .un, .un, .un, .un, .un, .un, .un, .un, .un, .un, .un, .un, .un, .un, .un, .un, .un, .un, .un, .un, .un, .un, .un, .un, .un, .un, .un, .un, .un, .un, .un, .un, .un, .un, .un, .un, .un, .un, .un, .un, .un, .un, .un, .un, .un, .un], params := [28], assign := (subC [1, 1, 1, 1, 0, 1, 0, 0] (bd Tryd.f6)), body := (subC [1, 1, 1, 1, 0, 1, 0, 1] (bd Tryd.f6)) })], df := [] }
noncomputable def P6_9 : SP := { ts := [(.yl 11), .un, .un, .un, .un, .un, (.hole (.sl .str)), (.hole (.int .i64)), (.hole (.int .i64)), .un, .un, .un, .un, .un, .un, .un, .un, .un, .un, .un, .un, .un, .un, .un, .un], h := [(.cells [(.hole .str)]), (.cells [(.hole (.int .i64))]), (.cells [(.ro 8 .h (.k 0) .h)]), (.cells [(.hole .str)]), (.cells [(.ro 8 .h (.k 0) .h)]), .dead, (.loop { state := .exhausted, pending := none, fno := 34, tmps := [.un, .un, (.pt 4 0), .un, .un, .un, .un, .un, .un, .un, .un, .un, .un], params := [7], assign := (subC [1, 0, 1, 0, 0] (bd Tryd.f34)), body := (subC [1, 0, 1, 0, 1] (bd Tryd.f34)) }), (.row 9 .str .h), (.row 9 .str .h), (.cells [(.hole .str)]), .defs, (.loop { state := .ready, pending := none, fno := 6, tmps := [.un, .un, .un, .un, (.pt 0 0), (.pt 1 0), (.pt 2 0), .un, .un, .un, .un, .un, .un, .un, .un, .un, .un, .un, .un, .un, .un, .un, .un, .un, .un, .un, .un, .un, .un, .un, .un, .un, .un, .un, .un, .un, .un, .un, .un, .un, .un, .un, .un, .un, .un, .un, .un, .un, .un, .un, .un, .un, .un, .un, .un, .un, .un], params := [28], assign := (subC [1, 1, 1, 1, 0, 1, 0, 0] (bd Tryd.f6)), body := (subC [1, 1, 1, 1, 0, 1, 0, 1] (bd Tryd.f6)) })], df := [] }
noncomputable def P6_10 : SP := { ts := [(.yl 11), .un, .un, .un, .un, .un, (.hole (.sl .str)), (.hole (.int .i64)), (.hole (.int .i64)), .un, .un, .un, .un, .un, .un, .un, .un, .un, .un, .un, .un, .un, .un, .un, .un], h := [(.cells [(.cs [])]), (.cells [(.ci .i64 (0))]), (.cells [(.ro 8 .h (.k 0) .h)]), (.cells [(.hole .str)]), (.cells [(.ro 8 .h (.k 0) .h)]), .dead, (.loop { state := .exhausted, pending := none, fno := 34, tmps := [.un, .un, (.pt 4 0), .un, .un, .un, .un, .un, .un, .un, .un, .un, .un], params := [7], assign := (subC [1, 0, 1, 0, 0] (bd Tryd.f34)), body := (subC [1, 0, 1, 0, 1] (bd Tryd.f34)) }), (.row 9 .str .h), (.row 9 .str .h), (.cells [(.hole .str)]), .defs, (.loop { state := .ready, pending := none, fno := 6, tmps := [.un, .un, .un, .un, (.pt 0 0), (.pt 1 0), (.pt 2 0), .un, .un, .un, .un, .un, .un, .un, .un, .un, .un, .un, .un, .un, .un, .un, .un, .un, .un, .un, .un, .un, .un, .un, .un, .un, .un, .un, .un, .un, .un, .un, .un, .un, .un, .un, .un, .un, .un, .un, .un, .un, .un, .un, .un, .un, .un, .un, .un, .un, .un], params := [28], assign := (subC [1, 1, 1, 1, 0, 1, 0, 0] (bd Tryd.f6)), body := (subC [1, 1, 1, 1, 0, 1, 0, 1] (bd Tryd.f6)) })], df := [] }
noncomputable def P6_11 : SP := { ts := [(.yl 5), .un, .un, .un, .un, .un, (.hole (.sl .str)), (.hole (.int .i64)), (.hole (.int .i64)), .un, .un, .un, .un, .un, .un, .un, .un, .un, .un, .un, .un, .un, .un, .un, .un], h := [(.cells [(.hole .str)]), (.cells [(.hole (.int .i64))]), (.cells [.nsl]), (.cells [(.hole .str)]), .defs, (.loop { state := .done, pending := (some .ret), fno := 6, tmps := [.un, .un, .un, .un, (.pt 0 0), (.pt 1 0), (.pt 2 0), .un, .un, .un, .un, .un, .un, .un, .un, .un, .un, .un, .un, .un, .un, .un, .un, .un, .un, .un, .un, .un, .un, .un, .un, .un, .un, .un, .un, .un, .un, .un, .un, .un, .un, .un, .un, .un, .un, .un, .un, .un, .un, .un, .un, .un, .un, .un, .un, .un, .un], params := [28], assign := (subC [1, 1, 1, 1, 0, 1, 0, 0] (bd Tryd.f6)), body := (subC [1, 1, 1, 1, 0, 1, 0, 1] (bd Tryd.f6)) })], df := [] }
noncomputable def P6_12 : SP := { ts := [(.yl 5), .un, .un, .un, .un, .un, (.hole (.sl .str)), (.hole (.int .i64)), (.hole (.int .i64)), .un, .un, .un, .un, .un, .un, .un, .un, .un, .un, .un, .un, .un, .un, .un, .un], h := [(.cells [(.hole .str)]), (.cells [(.hole (.int .i64))]), (.cells [.nsl]), (.cells [(.hole .str)]), .defs, (.loop { state := .ready, pending := none, fno := 6, tmps := [.un, .un, .un, .un, (.pt 0 0), (.pt 1 0), (.pt 2 0), .un, .un, .un, .un, .un, .un, .un, .un, .un, .un, .un, .un, .un, .un, .un, .un, .un, .un, .un, .un, .un, .un, .un, .un, .un, .un, .un, .un, .un, .un, .un, .un, .un, .un, .un, .un, .un, .un, .un, .un, .un, .un, .un, .un, .un, .un, .un, .un, .un, .un], params := [28], assign := (subC [1, 1, 1, 1, 0, 1, 0, 0] (bd Tryd.f6)), body := (subC [1, 1, 1, 1, 0, 1, 0, 1] (bd Tryd.f6)) })], df := [] }
noncomputable def P6_13 : SP := { ts := [(.yl 5), .un, .un, .un, .un, .un, (.hole (.sl .str)), (.hole (.int .i64)), (.hole (.int .i64)), .un, .un, .un, .un, .un, .un, .un, .un, .un, .un, .un, .un, .un, .un, .un, .un], h := [(.cells [(.hole .str)]), (.cells [(.hole (.int .i64))]), (.cells [(.ro 7 .h (.k 0) .h)]), (.cells [(.hole .str)]), .defs, (.loop { state := .done, pending := (some .ret), fno := 6, tmps := [.un, .un, .un, .un, (.pt 0 0), (.pt 1 0), (.pt 2 0), .un, .un, .un, .un, .un, .un, .un, .un, .un, .un, .un, .un, .un, .un, .un, .un, .un, .un, .un, .un, .un, .un, .un, .un, .un, .un, .un, .un, .un, .un, .un, .un, .un, .un, .un, .un, .un, .un, .un, .un, .un, .un, .un, .un, .un, .un, .un, .un, .un, .un], params := [28], assign := (subC [1, 1, 1, 1, 0, 1, 0, 0] (bd Tryd.f6)), body := (subC [1, 1, 1, 1, 0, 1, 0, 1] (bd Tryd.f6)) }), (.row 9 .str .h), (.row 9 .str .h)], df := [] }
noncomputable def P6_14 : SP := { ts := [(.yl 5), .un, .un, .un, .un, .un, (.hole (.sl .str)), (.hole (.int .i64)), (.hole (.int .i64)), .un, .un, .un, .un, .un, .un, .un, .un, .un, .un, .un, .un, .un, .un, .un, .un], h := [(.cells [(.hole .str)]), (.cells [(.hole (.int .i64))]), (.cells [(.ro 7 .h (.k 0) .h)]), (.cells [(.hole .str)]), .defs, (.loop { state := .ready, pending := none, fno := 6, tmps := [.un, .un, .un, .un, (.pt 0 0), (.pt 1 0), (.pt 2 0), .un, .un, .un, .un, .un, .un, .un, .un, .un, .un, .un, .un, .un, .un, .un, .un, .un, .un, .un, .un, .un, .un, .un, .un, .un, .un, .un, .un, .un, .un, .un, .un, .un, .un, .un, .un, .un, .un, .un, .un, .un, .un, .un, .un, .un, .un, .un, .un, .un, .un], params := [28], assign := (subC [1, 1, 1, 1, 0, 1, 0, 0] (bd Tryd.f6)), body := (subC [1, 1, 1, 1, 0, 1, 0, 1] (bd Tryd.f6)) }), (.row 9 .str .h), (.row 9 .str .h)], df := [] }
noncomputable def P6_15 : SP := { ts := [(.yl 5), .un, .un, .un, .un, .un, (.hole (.sl .str)), (.hole (.int .i64)), (.hole (.int .i64)), .un, .un, .un, .un, .un, .un, .un, .un, .un, .un, .un, .un, .un, .un, .un, .un], h := [(.cells [(.cs [])]), (.cells [(.ci .i64 (0))]), (.cells [.nsl]), (.cells [(.hole .str)]), .defs, (.loop { state := .ready, pending := none, fno := 6, tmps := [.un, .un, .un, .un, (.pt 0 0), (.pt 1 0), (.pt 2 0), .un, .un, .un, .un, .un, .un, .un, .un, .un, .un, .un, .un, .un, .un, .un, .un, .un, .un, .un, .un, .un, .un, .un, .un, .un, .un, .un, .un, .un, .un, .un, .un, .un, .un, .un, .un, .un, .un, .un, .un, .un, .un, .un, .un, .un, .un, .un, .un, .un, .un], params := [28], assign := (subC [1, 1, 1, 1, 0, 1, 0, 0] (bd Tryd.f6)), body := (subC [1, 1, 1, 1, 0, 1, 0, 1] (bd Tryd.f6)) })], df := [] }
noncomputable def P6_16 : SP := { ts := [(.yl 6), .un, .un, .un, .un, .un, (.hole (.sl .str)), (.hole (.int .i64)), (.hole (.int .i64)), .un, .un, .un, .un, .un, .un, .un, .un, .un, .un, .un, .un, .un, .un, .un, .un], h := [(.cells [(.cs [])]), (.cells [(.ci .i64 (0))]), (.cells [.nsl]), (.cells [(.hole .str)]), (.cells [(.ro 8 .h (.k 0) .h)]), .defs, (.loop { state := .ready, pending := none, fno := 34, tmps := [.un, .un, (.pt 4 0), .un, .un, .un, .un, .un, .un, .un, .un, .un, .un], params := [7], assign := (subC [1, 0, 1, 0, 0] (bd Tryd.f34)), body := (subC [1, 0, 1, 0, 1] (bd Tryd.f34)) }), (.row 9 .str .h), (.row 9 .str .h)], df := [] }
noncomputable def P6_17 : SP := { ts := [(.yl 6), .un, .un, .un, .un, .un, (.hole (.sl .str)), (.hole (.int .i64)), (.hole (.int .i64)), .un, .un, .un, .un, .un, .un, .un, .un, .un, .un, .un, .un, .un, .un, .un, .un], h := [(.cells [(.cs [])]), (.cells [(.ci .i64 (0))]), (.cells [(.ro 8 .h (.k 0) .h)]), (.cells [(.hole .str)]), (.cells [(.hole .str)]), .defs, (.loop { state := .ready, pending := none, fno := 6, tmps := [.un, .un, .un, .un, (.pt 0 0), (.pt 1 0), (.pt 2 0), .un, .un, .un, .un, .un, .un, .un, .un, .un, .un, .un, .un, .un, .un, .un, .un, .un, .un, .un, .un, .un, .un, .un, .un, .un, .un, .un, .un, .un, .un, .un, .un, .un, .un, .un, .un, .un, .un, .un, .un, .un, .un, .un, .un, .un, .un, .un, .un, .un, .un], params := [28], assign := (subC [1, 1, 1, 1, 0, 1, 0, 0] (bd Tryd.f6)), body := (subC [1, 1, 1, 1, 0, 1, 0, 1] (bd Tryd.f6)) }), (.row 9 .str .h), (.row 9 .str .h)], df := [] }
noncomputable def P6_18 : SP := { ts := [(.yl 5), .un, .un, .un, .un, .un, (.hole (.sl .str)), (.hole (.int .i64)), (.hole (.int .i64)), .un, .un, .un, .un, .un, .un, .un, .un, .un, .un, .un, .un, .un, .un, .un, .un], h := [(.cells [(.cs [])]), (.cells [(.ci .i64 (0))]), (.cells [(.ro 7 .h (.k 0) .h)]), (.cells [(.hole .str)]), .defs, (.loop { state := .ready, pending := none, fno := 6, tmps := [.un, .un, .un, .un, (.pt 0 0), (.pt 1 0), (.pt 2 0), .un, .un, .un, .un, .un, .un, .un, .un, .un, .un, .un, .un, .un, .un, .un, .un, .un, .un, .un, .un, .un, .un, .un, .un, .un, .un, .un, .un, .un, .un, .un, .un, .un, .un, .un, .un, .un, .un, .un, .un, .un, .un, .un, .un, .un, .un, .un, .un, .un, .un], params := [28], assign := (subC [1, 1, 1, 1, 0, 1, 0, 0] (bd Tryd.f6)), body := (subC [1, 1, 1, 1, 0, 1, 0, 1] (bd Tryd.f6)) }), (.row 9 .str .h), (.row 9 .str .h)], df := [] }
noncomputable def T6_0_1 {ρ : Type} (k : Nat) (N1 : Int → Nat → Nat → (List (List UInt8)) → Nat → (List (List UInt8)) → Nat → Option ρ) (K0 : Int → Option ρ) (K1 : Int → Nat → Nat → (List (List UInt8)) → Nat → (List (List UInt8)) → Nat → Option ρ) (t6 : List (List UInt8)) (t7 : Int) (t8 : Int) (h4_0v : Nat) (h4_0n : Nat) (h7r : List (List UInt8)) (h7v : Nat) (h8r : List (List UInt8)) (h8v : Nat) : Option ρ :=
  bif (decide (t8 < t7)) then (
    if (inR t8 (t6).length) then (
      bif (!((List.getD t6 (t8).toNat ([] : List UInt8)) == ([] : List UInt8))) then (
        bif (!((List.getD t6 (t8).toNat ([] : List UInt8)) == ([46] : List UInt8))) then (
          if (h4_0v = h8v) then (
            if (0 < 16 ∧ (h4_0n + 1) * 16 ≤ 140737488355328) then (
              N1 (IntKind.wrap .i64 (t8 + (1 : Int))) (h8v + 1) (h4_0n + 1) h7r h7v ((List.take h4_0n h8r) ++ ([(List.getD t6 (t8).toNat ([] : List UInt8))] : List (List UInt8))) (h8v + 1)) else none) else none)
        else (
          N1 (IntKind.wrap .i64 (t8 + (1 : Int))) h4_0v h4_0n h7r h7v h8r h8v))
      else (
        N1 (IntKind.wrap .i64 (t8 + (1 : Int))) h4_0v h4_0n h7r h7v h8r h8v)) else none)
  else (
    K1 t8 h4_0v h4_0n h7r h7v h8r h8v)
noncomputable def L6_0_1 {ρ : Type} (K0 : Int → Option ρ) (K1 : Int → Nat → Nat → (List (List UInt8)) → Nat → (List (List UInt8)) → Nat → Option ρ) (k : Nat) (t6 : List (List UInt8)) (t7 : Int) : Nat → Int → Nat → Nat → (List (List UInt8)) → Nat → (List (List UInt8)) → Nat → Option ρ
  | 0, _, _, _, _, _, _, _ => none
  | n + 1, t8, h4_0v, h4_0n, h7r, h7v, h8r, h8v => T6_0_1 k (L6_0_1 K0 K1 k t6 t7 n) K0 K1 t6 t7 t8 h4_0v h4_0n h7r h7v h8r h8v
noncomputable def T6_0_0 {ρ : Type} (k : Nat) (N0 : Int → Option ρ) (N1 : Int → Nat → Nat → (List (List UInt8)) → Nat → (List (List UInt8)) → Nat → Option ρ) (K0 : Int → Option ρ) (K1 : Int → Nat → Nat → (List (List UInt8)) → Nat → (List (List UInt8)) → Nat → Option ρ) (t6 : List (List UInt8)) (t7 : Int) (t8 : Int) : Option ρ :=
  bif (decide (t8 < t7)) then (
    if (inR t8 (t6).length) then (
      bif (!((List.getD t6 (t8).toNat ([] : List UInt8)) == ([] : List UInt8))) then (
        bif (!((List.getD t6 (t8).toNat ([] : List UInt8)) == ([46] : List UInt8))) then (
          N1 (IntKind.wrap .i64 (t8 + (1 : Int))) 0 1 ([(List.getD t6 (t8).toNat ([] : List UInt8))] : List (List UInt8)) 0 ([(List.getD t6 (t8).toNat ([] : List UInt8))] : List (List UInt8)) 0)
        else (
          N0 (IntKind.wrap .i64 (t8 + (1 : Int)))))
      else (
        N0 (IntKind.wrap .i64 (t8 + (1 : Int))))) else none)
  else (
    K0 t8)
noncomputable def L6_0_0 {ρ : Type} (K0 : Int → Option ρ) (K1 : Int → Nat → Nat → (List (List UInt8)) → Nat → (List (List UInt8)) → Nat → Option ρ) (k : Nat) (t6 : List (List UInt8)) (t7 : Int) : Nat → Int → Option ρ
  | 0, _ => none
  | n + 1, t8 => T6_0_0 k (L6_0_0 K0 K1 k t6 t7 n) (L6_0_1 K0 K1 k t6 t7 n) K0 K1 t6 t7 t8
noncomputable def en6_0 : LE := { code := (subC [1, 0, 0] (bd Tryd.f35)), inR := false, pat := P6_2, hs := [.d (.sl .str), .d (.int .i64), .d (.int .i64), .d .str], need := 1, run := fun ρ k v K => L6_0_0 (fun (z0 : Int) => K (.exit 0) (fillH P6_0 [.d (.sl .str), .d (.int .i64), .d (.int .i64), .d .str, .d (.int .i64), .d .str] (v.1, v.2.1, z0, ([] : List UInt8), (0 : Int), v.2.2.2.1, ()))) (fun (z0 : Int) (z1 : Nat) (z2 : Nat) (z3 : List (List UInt8)) (z4 : Nat) (z5 : List (List UInt8)) (z6 : Nat) => K (.exit 0) (fillH P6_1 [.d (.sl .str), .d (.int .i64), .d (.int .i64), .d .str, .d (.int .i64), .d .str, .n, .n, .d (.sl .str), .n, .d (.sl .str), .n] (v.1, v.2.1, z0, ([] : List UInt8), (0 : Int), v.2.2.2.1, z1, z2, z3, z4, z5, z6, ()))) k v.1 v.2.1 k v.2.2.1 }
noncomputable def T6_1_1 {ρ : Type} (k : Nat) (N1 : Int → Nat → Nat → (List (List UInt8)) → Nat → (List (List UInt8)) → Nat → Option ρ) (K0 : Int → Int → Option ρ) (K1 : Int → Option ρ) (K2 : Int → Int → Nat → Nat → (List (List UInt8)) → Nat → (List (List UInt8)) → Nat → Option ρ) (K3 : Int → Nat → Nat → (List (List UInt8)) → Nat → (List (List UInt8)) → Nat → Option ρ) (t6 : List (List UInt8)) (t7 : Int) (t8 : Int) (h2_0v : Nat) (h2_0n : Nat) (h7r : List (List UInt8)) (h7v : Nat) (h8r : List (List UInt8)) (h8v : Nat) : Option ρ :=
  bif (decide (t8 < t7)) then (
    if (inR t8 (t6).length) then (
      bif (!((List.getD t6 (t8).toNat ([] : List UInt8)) == ([] : List UInt8))) then (
        bif (!((List.getD t6 (t8).toNat ([] : List UInt8)) == ([46] : List UInt8))) then (
          bif ((List.getD t6 (t8).toNat ([] : List UInt8)) == ([46, 46] : List UInt8)) then (
            if (h2_0v = h8v) then (
              if (h2_0v = h8v) then (
                if (0 ≤ (0 : Int) ∧ (0 : Int) ≤ (IntKind.wrap .i64 ((if (1 : Int) > (h2_0n : Int) then (1 : Int) else (h2_0n : Int)) - (1 : Int))) ∧ (IntKind.wrap .i64 ((if (1 : Int) > (h2_0n : Int) then (1 : Int) else (h2_0n : Int)) - (1 : Int))) ≤ (h2_0n : Int)) then (
                  N1 (IntKind.wrap .i64 (t8 + (1 : Int))) h2_0v (((IntKind.wrap .i64 ((if (1 : Int) > (h2_0n : Int) then (1 : Int) else (h2_0n : Int)) - (1 : Int)))).toNat) h7r h7v h8r h8v) else none) else none) else none)
          else (
            bif (decide ((((List.getD t6 (t8).toNat ([] : List UInt8))).length : Int) > (31 : Int))) then (
              K2 t8 (36 : Int) h2_0v h2_0n h7r h7v h8r h8v)
            else (
              bif (cIsName.pre ((List.getD t6 (t8).toNat ([] : List UInt8)), ())) then (
                bif (!(isNameS (List.getD t6 (t8).toNat ([] : List UInt8)))) then (
                  K2 t8 (22 : Int) h2_0v h2_0n h7r h7v h8r h8v)
                else (
                  if (h2_0v = h8v) then (
                    if (0 < 16 ∧ (h2_0n + 1) * 16 ≤ 140737488355328) then (
                      N1 (IntKind.wrap .i64 (t8 + (1 : Int))) (h8v + 1) (h2_0n + 1) h7r h7v ((List.take h2_0n h8r) ++ ([(List.getD t6 (t8).toNat ([] : List UInt8))] : List (List UInt8))) (h8v + 1)) else none) else none)) else none)))
        else (
          N1 (IntKind.wrap .i64 (t8 + (1 : Int))) h2_0v h2_0n h7r h7v h8r h8v))
      else (
        N1 (IntKind.wrap .i64 (t8 + (1 : Int))) h2_0v h2_0n h7r h7v h8r h8v)) else none)
  else (
    K3 t8 h2_0v h2_0n h7r h7v h8r h8v)
noncomputable def L6_1_1 {ρ : Type} (K0 : Int → Int → Option ρ) (K1 : Int → Option ρ) (K2 : Int → Int → Nat → Nat → (List (List UInt8)) → Nat → (List (List UInt8)) → Nat → Option ρ) (K3 : Int → Nat → Nat → (List (List UInt8)) → Nat → (List (List UInt8)) → Nat → Option ρ) (k : Nat) (t6 : List (List UInt8)) (t7 : Int) : Nat → Int → Nat → Nat → (List (List UInt8)) → Nat → (List (List UInt8)) → Nat → Option ρ
  | 0, _, _, _, _, _, _, _ => none
  | n + 1, t8, h2_0v, h2_0n, h7r, h7v, h8r, h8v => T6_1_1 k (L6_1_1 K0 K1 K2 K3 k t6 t7 n) K0 K1 K2 K3 t6 t7 t8 h2_0v h2_0n h7r h7v h8r h8v
noncomputable def T6_1_0 {ρ : Type} (k : Nat) (N0 : Int → Option ρ) (N1 : Int → Nat → Nat → (List (List UInt8)) → Nat → (List (List UInt8)) → Nat → Option ρ) (K0 : Int → Int → Option ρ) (K1 : Int → Option ρ) (K2 : Int → Int → Nat → Nat → (List (List UInt8)) → Nat → (List (List UInt8)) → Nat → Option ρ) (K3 : Int → Nat → Nat → (List (List UInt8)) → Nat → (List (List UInt8)) → Nat → Option ρ) (t6 : List (List UInt8)) (t7 : Int) (t8 : Int) : Option ρ :=
  bif (decide (t8 < t7)) then (
    if (inR t8 (t6).length) then (
      bif (!((List.getD t6 (t8).toNat ([] : List UInt8)) == ([] : List UInt8))) then (
        bif (!((List.getD t6 (t8).toNat ([] : List UInt8)) == ([46] : List UInt8))) then (
          bif ((List.getD t6 (t8).toNat ([] : List UInt8)) == ([46, 46] : List UInt8)) then (
            N0 (IntKind.wrap .i64 (t8 + (1 : Int))))
          else (
            bif (decide ((((List.getD t6 (t8).toNat ([] : List UInt8))).length : Int) > (31 : Int))) then (
              K0 t8 (36 : Int))
            else (
              bif (cIsName.pre ((List.getD t6 (t8).toNat ([] : List UInt8)), ())) then (
                bif (!(isNameS (List.getD t6 (t8).toNat ([] : List UInt8)))) then (
                  K0 t8 (22 : Int))
                else (
                  N1 (IntKind.wrap .i64 (t8 + (1 : Int))) 0 1 ([(List.getD t6 (t8).toNat ([] : List UInt8))] : List (List UInt8)) 0 ([(List.getD t6 (t8).toNat ([] : List UInt8))] : List (List UInt8)) 0)) else none)))
        else (
          N0 (IntKind.wrap .i64 (t8 + (1 : Int)))))
      else (
        N0 (IntKind.wrap .i64 (t8 + (1 : Int))))) else none)
  else (
    K1 t8)
noncomputable def L6_1_0 {ρ : Type} (K0 : Int → Int → Option ρ) (K1 : Int → Option ρ) (K2 : Int → Int → Nat → Nat → (List (List UInt8)) → Nat → (List (List UInt8)) → Nat → Option ρ) (K3 : Int → Nat → Nat → (List (List UInt8)) → Nat → (List (List UInt8)) → Nat → Option ρ) (k : Nat) (t6 : List (List UInt8)) (t7 : Int) : Nat → Int → Option ρ
  | 0, _ => none
  | n + 1, t8 => T6_1_0 k (L6_1_0 K0 K1 K2 K3 k t6 t7 n) (L6_1_1 K0 K1 K2 K3 k t6 t7 n) K0 K1 K2 K3 t6 t7 t8
noncomputable def en6_1 : LE := { code := (subC [1, 0, 0] (bd Tryd.f35)), inR := false, pat := P6_7, hs := [.d (.sl .str), .d (.int .i64), .d (.int .i64), .d .str, .d .str], need := 2, run := fun ρ k v K => L6_1_0 (fun (z0 : Int) (z1 : Int) => K .ret (fillH P6_3 [.d (.sl .str), .d (.int .i64), .d (.int .i64), .d .str, .d (.int .i64), .d .str, .d .str] (v.1, v.2.1, z0, ([] : List UInt8), z1, v.2.2.2.1, v.2.2.2.2.1, ()))) (fun (z0 : Int) => K (.exit 0) (fillH P6_4 [.d (.sl .str), .d (.int .i64), .d (.int .i64), .d .str, .d (.int .i64), .d .str, .d .str] (v.1, v.2.1, z0, ([] : List UInt8), (0 : Int), v.2.2.2.1, v.2.2.2.2.1, ()))) (fun (z0 : Int) (z1 : Int) (z2 : Nat) (z3 : Nat) (z4 : List (List UInt8)) (z5 : Nat) (z6 : List (List UInt8)) (z7 : Nat) => K .ret (fillH P6_5 [.d (.sl .str), .d (.int .i64), .d (.int .i64), .d .str, .d (.int .i64), .n, .n, .d .str, .d .str, .d (.sl .str), .n, .d (.sl .str), .n] (v.1, v.2.1, z0, ([] : List UInt8), z1, z2, z3, v.2.2.2.1, v.2.2.2.2.1, z4, z5, z6, z7, ()))) (fun (z0 : Int) (z1 : Nat) (z2 : Nat) (z3 : List (List UInt8)) (z4 : Nat) (z5 : List (List UInt8)) (z6 : Nat) => K (.exit 0) (fillH P6_6 [.d (.sl .str), .d (.int .i64), .d (.int .i64), .d .str, .d (.int .i64), .n, .n, .d .str, .d .str, .d (.sl .str), .n, .d (.sl .str), .n] (v.1, v.2.1, z0, ([] : List UInt8), (0 : Int), z1, z2, v.2.2.2.1, v.2.2.2.2.1, z3, z4, z5, z6, ()))) k v.1 v.2.1 k v.2.2.1 }
noncomputable def T6_2_0 {ρ : Type} (k : Nat) (N0 : Int → Nat → Nat → (List (List UInt8)) → Nat → Option ρ) (K0 : Int → Int → Nat → Nat → (List (List UInt8)) → Nat → Option ρ) (K1 : Int → Nat → Nat → (List (List UInt8)) → Nat → Option ρ) (t6 : List (List UInt8)) (t7 : Int) (t8 : Int) (h2_0v : Nat) (h2_0n : Nat) (h8r : List (List UInt8)) (h8v : Nat) : Option ρ :=
  bif (decide (t8 < t7)) then (
    if (inR t8 (t6).length) then (
      bif (!((List.getD t6 (t8).toNat ([] : List UInt8)) == ([] : List UInt8))) then (
        bif (!((List.getD t6 (t8).toNat ([] : List UInt8)) == ([46] : List UInt8))) then (
          bif ((List.getD t6 (t8).toNat ([] : List UInt8)) == ([46, 46] : List UInt8)) then (
            if (h2_0v = h8v) then (
              if (h2_0v = h8v) then (
                if (0 ≤ (0 : Int) ∧ (0 : Int) ≤ (IntKind.wrap .i64 ((if (1 : Int) > (h2_0n : Int) then (1 : Int) else (h2_0n : Int)) - (1 : Int))) ∧ (IntKind.wrap .i64 ((if (1 : Int) > (h2_0n : Int) then (1 : Int) else (h2_0n : Int)) - (1 : Int))) ≤ (h2_0n : Int)) then (
                  N0 (IntKind.wrap .i64 (t8 + (1 : Int))) h2_0v (((IntKind.wrap .i64 ((if (1 : Int) > (h2_0n : Int) then (1 : Int) else (h2_0n : Int)) - (1 : Int)))).toNat) h8r h8v) else none) else none) else none)
          else (
            bif (decide ((((List.getD t6 (t8).toNat ([] : List UInt8))).length : Int) > (31 : Int))) then (
              K0 t8 (36 : Int) h2_0v h2_0n h8r h8v)
            else (
              bif (cIsName.pre ((List.getD t6 (t8).toNat ([] : List UInt8)), ())) then (
                bif (!(isNameS (List.getD t6 (t8).toNat ([] : List UInt8)))) then (
                  K0 t8 (22 : Int) h2_0v h2_0n h8r h8v)
                else (
                  if (h2_0v = h8v) then (
                    if (0 < 16 ∧ (h2_0n + 1) * 16 ≤ 140737488355328) then (
                      N0 (IntKind.wrap .i64 (t8 + (1 : Int))) (h8v + 1) (h2_0n + 1) ((List.take h2_0n h8r) ++ ([(List.getD t6 (t8).toNat ([] : List UInt8))] : List (List UInt8))) (h8v + 1)) else none) else none)) else none)))
        else (
          N0 (IntKind.wrap .i64 (t8 + (1 : Int))) h2_0v h2_0n h8r h8v))
      else (
        N0 (IntKind.wrap .i64 (t8 + (1 : Int))) h2_0v h2_0n h8r h8v)) else none)
  else (
    K1 t8 h2_0v h2_0n h8r h8v)
noncomputable def L6_2_0 {ρ : Type} (K0 : Int → Int → Nat → Nat → (List (List UInt8)) → Nat → Option ρ) (K1 : Int → Nat → Nat → (List (List UInt8)) → Nat → Option ρ) (k : Nat) (t6 : List (List UInt8)) (t7 : Int) : Nat → Int → Nat → Nat → (List (List UInt8)) → Nat → Option ρ
  | 0, _, _, _, _, _ => none
  | n + 1, t8, h2_0v, h2_0n, h8r, h8v => T6_2_0 k (L6_2_0 K0 K1 k t6 t7 n) K0 K1 t6 t7 t8 h2_0v h2_0n h8r h8v
noncomputable def en6_2 : LE := { code := (subC [1, 0, 0] (bd Tryd.f35)), inR := false, pat := P6_10, hs := [.d (.sl .str), .d (.int .i64), .d (.int .i64), .n, .n, .d .str, .n, .n, .d (.sl .str), .n, .d (.sl .str), .n, .d .str], need := 2, run := fun ρ k v K => L6_2_0 (fun (z0 : Int) (z1 : Int) (z2 : Nat) (z3 : Nat) (z4 : List (List UInt8)) (z5 : Nat) => K .ret (fillH P6_8 [.d (.sl .str), .d (.int .i64), .d (.int .i64), .d .str, .d (.int .i64), .n, .n, .d .str, .n, .n, .d (.sl .str), .n, .d (.sl .str), .n, .d .str] (v.1, v.2.1, z0, ([] : List UInt8), z1, z2, z3, v.2.2.2.2.2.1, v.2.2.2.2.2.2.1, v.2.2.2.2.2.2.2.1, v.2.2.2.2.2.2.2.2.1, v.2.2.2.2.2.2.2.2.2.1, z4, z5, v.2.2.2.2.2.2.2.2.2.2.2.2.1, ()))) (fun (z0 : Int) (z1 : Nat) (z2 : Nat) (z3 : List (List UInt8)) (z4 : Nat) => K (.exit 0) (fillH P6_9 [.d (.sl .str), .d (.int .i64), .d (.int .i64), .d .str, .d (.int .i64), .n, .n, .d .str, .n, .n, .d (.sl .str), .n, .d (.sl .str), .n, .d .str] (v.1, v.2.1, z0, ([] : List UInt8), (0 : Int), z1, z2, v.2.2.2.2.2.1, v.2.2.2.2.2.2.1, v.2.2.2.2.2.2.2.1, v.2.2.2.2.2.2.2.2.1, v.2.2.2.2.2.2.2.2.2.1, z3, z4, v.2.2.2.2.2.2.2.2.2.2.2.2.1, ()))) k v.1 v.2.1 k v.2.2.1 v.2.2.2.1 v.2.2.2.2.1 v.2.2.2.2.2.2.2.2.2.2.1 v.2.2.2.2.2.2.2.2.2.2.2.1 }
noncomputable def T6_3_1 {ρ : Type} (k : Nat) (N1 : Int → Nat → Nat → (List (List UInt8)) → Nat → (List (List UInt8)) → Nat → Option ρ) (K0 : Int → Int → Option ρ) (K1 : Int → Option ρ) (K2 : Int → Int → Nat → Nat → (List (List UInt8)) → Nat → (List (List UInt8)) → Nat → Option ρ) (K3 : Int → Nat → Nat → (List (List UInt8)) → Nat → (List (List UInt8)) → Nat → Option ρ) (t6 : List (List UInt8)) (t7 : Int) (t8 : Int) (h2_0v : Nat) (h2_0n : Nat) (h6r : List (List UInt8)) (h6v : Nat) (h7r : List (List UInt8)) (h7v : Nat) : Option ρ :=
  bif (decide (t8 < t7)) then (
    if (inR t8 (t6).length) then (
      bif (!((List.getD t6 (t8).toNat ([] : List UInt8)) == ([] : List UInt8))) then (
        bif (!((List.getD t6 (t8).toNat ([] : List UInt8)) == ([46] : List UInt8))) then (
          bif ((List.getD t6 (t8).toNat ([] : List UInt8)) == ([46, 46] : List UInt8)) then (
            if (h2_0v = h7v) then (
              if (h2_0v = h7v) then (
                if (0 ≤ (0 : Int) ∧ (0 : Int) ≤ (IntKind.wrap .i64 ((if (1 : Int) > (h2_0n : Int) then (1 : Int) else (h2_0n : Int)) - (1 : Int))) ∧ (IntKind.wrap .i64 ((if (1 : Int) > (h2_0n : Int) then (1 : Int) else (h2_0n : Int)) - (1 : Int))) ≤ (h2_0n : Int)) then (
                  N1 (IntKind.wrap .i64 (t8 + (1 : Int))) h2_0v (((IntKind.wrap .i64 ((if (1 : Int) > (h2_0n : Int) then (1 : Int) else (h2_0n : Int)) - (1 : Int)))).toNat) h6r h6v h7r h7v) else none) else none) else none)
          else (
            bif (decide ((((List.getD t6 (t8).toNat ([] : List UInt8))).length : Int) > (31 : Int))) then (
              K2 t8 (36 : Int) h2_0v h2_0n h6r h6v h7r h7v)
            else (
              bif (cIsName.pre ((List.getD t6 (t8).toNat ([] : List UInt8)), ())) then (
                bif (!(isNameS (List.getD t6 (t8).toNat ([] : List UInt8)))) then (
                  K2 t8 (22 : Int) h2_0v h2_0n h6r h6v h7r h7v)
                else (
                  if (h2_0v = h7v) then (
                    if (0 < 16 ∧ (h2_0n + 1) * 16 ≤ 140737488355328) then (
                      N1 (IntKind.wrap .i64 (t8 + (1 : Int))) (h7v + 1) (h2_0n + 1) h6r h6v ((List.take h2_0n h7r) ++ ([(List.getD t6 (t8).toNat ([] : List UInt8))] : List (List UInt8))) (h7v + 1)) else none) else none)) else none)))
        else (
          N1 (IntKind.wrap .i64 (t8 + (1 : Int))) h2_0v h2_0n h6r h6v h7r h7v))
      else (
        N1 (IntKind.wrap .i64 (t8 + (1 : Int))) h2_0v h2_0n h6r h6v h7r h7v)) else none)
  else (
    K3 t8 h2_0v h2_0n h6r h6v h7r h7v)
noncomputable def L6_3_1 {ρ : Type} (K0 : Int → Int → Option ρ) (K1 : Int → Option ρ) (K2 : Int → Int → Nat → Nat → (List (List UInt8)) → Nat → (List (List UInt8)) → Nat → Option ρ) (K3 : Int → Nat → Nat → (List (List UInt8)) → Nat → (List (List UInt8)) → Nat → Option ρ) (k : Nat) (t6 : List (List UInt8)) (t7 : Int) : Nat → Int → Nat → Nat → (List (List UInt8)) → Nat → (List (List UInt8)) → Nat → Option ρ
  | 0, _, _, _, _, _, _, _ => none
  | n + 1, t8, h2_0v, h2_0n, h6r, h6v, h7r, h7v => T6_3_1 k (L6_3_1 K0 K1 K2 K3 k t6 t7 n) K0 K1 K2 K3 t6 t7 t8 h2_0v h2_0n h6r h6v h7r h7v
noncomputable def T6_3_0 {ρ : Type} (k : Nat) (N0 : Int → Option ρ) (N1 : Int → Nat → Nat → (List (List UInt8)) → Nat → (List (List UInt8)) → Nat → Option ρ) (K0 : Int → Int → Option ρ) (K1 : Int → Option ρ) (K2 : Int → Int → Nat → Nat → (List (List UInt8)) → Nat → (List (List UInt8)) → Nat → Option ρ) (K3 : Int → Nat → Nat → (List (List UInt8)) → Nat → (List (List UInt8)) → Nat → Option ρ) (t6 : List (List UInt8)) (t7 : Int) (t8 : Int) : Option ρ :=
  bif (decide (t8 < t7)) then (
    if (inR t8 (t6).length) then (
      bif (!((List.getD t6 (t8).toNat ([] : List UInt8)) == ([] : List UInt8))) then (
        bif (!((List.getD t6 (t8).toNat ([] : List UInt8)) == ([46] : List UInt8))) then (
          bif ((List.getD t6 (t8).toNat ([] : List UInt8)) == ([46, 46] : List UInt8)) then (
            N0 (IntKind.wrap .i64 (t8 + (1 : Int))))
          else (
            bif (decide ((((List.getD t6 (t8).toNat ([] : List UInt8))).length : Int) > (31 : Int))) then (
              K0 t8 (36 : Int))
            else (
              bif (cIsName.pre ((List.getD t6 (t8).toNat ([] : List UInt8)), ())) then (
                bif (!(isNameS (List.getD t6 (t8).toNat ([] : List UInt8)))) then (
                  K0 t8 (22 : Int))
                else (
                  N1 (IntKind.wrap .i64 (t8 + (1 : Int))) 0 1 ([(List.getD t6 (t8).toNat ([] : List UInt8))] : List (List UInt8)) 0 ([(List.getD t6 (t8).toNat ([] : List UInt8))] : List (List UInt8)) 0)) else none)))
        else (
          N0 (IntKind.wrap .i64 (t8 + (1 : Int)))))
      else (
        N0 (IntKind.wrap .i64 (t8 + (1 : Int))))) else none)
  else (
    K1 t8)
noncomputable def L6_3_0 {ρ : Type} (K0 : Int → Int → Option ρ) (K1 : Int → Option ρ) (K2 : Int → Int → Nat → Nat → (List (List UInt8)) → Nat → (List (List UInt8)) → Nat → Option ρ) (K3 : Int → Nat → Nat → (List (List UInt8)) → Nat → (List (List UInt8)) → Nat → Option ρ) (k : Nat) (t6 : List (List UInt8)) (t7 : Int) : Nat → Int → Option ρ
  | 0, _ => none
  | n + 1, t8 => T6_3_0 k (L6_3_0 K0 K1 K2 K3 k t6 t7 n) (L6_3_1 K0 K1 K2 K3 k t6 t7 n) K0 K1 K2 K3 t6 t7 t8
noncomputable def en6_3 : LE := { code := (subC [1, 0, 0] (bd Tryd.f35)), inR := false, pat := P6_15, hs := [.d (.sl .str), .d (.int .i64), .d (.int .i64), .d .str], need := 2, run := fun ρ k v K => L6_3_0 (fun (z0 : Int) (z1 : Int) => K .ret (fillH P6_11 [.d (.sl .str), .d (.int .i64), .d (.int .i64), .d .str, .d (.int .i64), .d .str] (v.1, v.2.1, z0, ([] : List UInt8), z1, v.2.2.2.1, ()))) (fun (z0 : Int) => K (.exit 0) (fillH P6_12 [.d (.sl .str), .d (.int .i64), .d (.int .i64), .d .str, .d (.int .i64), .d .str] (v.1, v.2.1, z0, ([] : List UInt8), (0 : Int), v.2.2.2.1, ()))) (fun (z0 : Int) (z1 : Int) (z2 : Nat) (z3 : Nat) (z4 : List (List UInt8)) (z5 : Nat) (z6 : List (List UInt8)) (z7 : Nat) => K .ret (fillH P6_13 [.d (.sl .str), .d (.int .i64), .d (.int .i64), .d .str, .d (.int .i64), .n, .n, .d .str, .d (.sl .str), .n, .d (.sl .str), .n] (v.1, v.2.1, z0, ([] : List UInt8), z1, z2, z3, v.2.2.2.1, z4, z5, z6, z7, ()))) (fun (z0 : Int) (z1 : Nat) (z2 : Nat) (z3 : List (List UInt8)) (z4 : Nat) (z5 : List (List UInt8)) (z6 : Nat) => K (.exit 0) (fillH P6_14 [.d (.sl .str), .d (.int .i64), .d (.int .i64), .d .str, .d (.int .i64), .n, .n, .d .str, .d (.sl .str), .n, .d (.sl .str), .n] (v.1, v.2.1, z0, ([] : List UInt8), (0 : Int), z1, z2, v.2.2.2.1, z3, z4, z5, z6, ()))) k v.1 v.2.1 k v.2.2.1 }
noncomputable def lp6 : List (Nat × Nat × LE) := [(35, 1, en6_0), (35, 1, en6_1), (35, 1, en6_2), (35, 1, en6_3)]
noncomputable def cp6s : List (Nat × CP) := [(15, cIsPath), (18, cIsName), (19, cJoin), (32, cSplit)]
noncomputable def dr6 : List (Nat × List Nat) := []
noncomputable def tb6 : Tb := mkT lp6 cp6s
noncomputable def e6 : Env := mkE tys gl fns dr6 [(6, [(9, [4, 5, 6])]), (34, [(2, [2])]), (35, [(1, [0, 6, 7, 8])])] cp6s
theorem st6_0_1 {ρ : Type} (d k n : Nat) (K : Ex → St → Option ρ) (t6 : List (List UInt8)) (t7 : Int) (t8 : Int) (h3_0 : List UInt8) (h4_0v : Nat) (h4_0n : Nat) (h7r : List (List UInt8)) (h7v : Nat) (h8r : List (List UInt8)) (h8v : Nat) : evLoop (en6_0.F tb6 e6 35 k (d + en6_0.need)) (en6_0.gc e6 35) (n + 1) (fillH P6_16 [.d (.sl .str), .d (.int .i64), .d (.int .i64), .d .str, .n, .n, .d (.sl .str), .n, .d (.sl .str), .n] (t6, t7, t8, h3_0, h4_0v, h4_0n, h7r, h7v, h8r, h8v, ())) (en6_0.KX e6 35 K) =
    T6_0_1 k (fun (t8' : Int) (h4_0v' : Nat) (h4_0n' : Nat) (h7r' : List (List UInt8)) (h7v' : Nat) (h8r' : List (List UInt8)) (h8v' : Nat) => evLoop (en6_0.F tb6 e6 35 k (d + en6_0.need)) (en6_0.gc e6 35) n (fillH P6_16 [.d (.sl .str), .d (.int .i64), .d (.int .i64), .d .str, .n, .n, .d (.sl .str), .n, .d (.sl .str), .n] (t6, t7, t8', h3_0, h4_0v', h4_0n', h7r', h7v', h8r', h8v', ())) (en6_0.KX e6 35 K)) (fun (z0 : Int) => K (.exit 0) (fillH P6_0 [.d (.sl .str), .d (.int .i64), .d (.int .i64), .d .str, .d (.int .i64), .d .str] (t6, t7, z0, ([] : List UInt8), (0 : Int), h3_0, ()))) (fun (z0 : Int) (z1 : Nat) (z2 : Nat) (z3 : List (List UInt8)) (z4 : Nat) (z5 : List (List UInt8)) (z6 : Nat) => K (.exit 0) (fillH P6_1 [.d (.sl .str), .d (.int .i64), .d (.int .i64), .d .str, .d (.int .i64), .d .str, .n, .n, .d (.sl .str), .n, .d (.sl .str), .n] (t6, t7, z0, ([] : List UInt8), (0 : Int), h3_0, z1, z2, z3, z4, z5, z6, ()))) t6 t7 t8 h4_0v h4_0n h7r h7v h8r h8v := by kernel_rfl
theorem go6_0_1 {ρ : Type} (d k : Nat) (K : Ex → St → Option ρ) (t6 : List (List UInt8)) (t7 : Int) (h3_0 : List UInt8) : ∀ (n : Nat) (t8 : Int) (h4_0v : Nat) (h4_0n : Nat) (h7r : List (List UInt8)) (h7v : Nat) (h8r : List (List UInt8)) (h8v : Nat), evLoop (en6_0.F tb6 e6 35 k (d + en6_0.need)) (en6_0.gc e6 35) n (fillH P6_16 [.d (.sl .str), .d (.int .i64), .d (.int .i64), .d .str, .n, .n, .d (.sl .str), .n, .d (.sl .str), .n] (t6, t7, t8, h3_0, h4_0v, h4_0n, h7r, h7v, h8r, h8v, ())) (en6_0.KX e6 35 K) = L6_0_1 (fun (z0 : Int) => K (.exit 0) (fillH P6_0 [.d (.sl .str), .d (.int .i64), .d (.int .i64), .d .str, .d (.int .i64), .d .str] (t6, t7, z0, ([] : List UInt8), (0 : Int), h3_0, ()))) (fun (z0 : Int) (z1 : Nat) (z2 : Nat) (z3 : List (List UInt8)) (z4 : Nat) (z5 : List (List UInt8)) (z6 : Nat) => K (.exit 0) (fillH P6_1 [.d (.sl .str), .d (.int .i64), .d (.int .i64), .d .str, .d (.int .i64), .d .str, .n, .n, .d (.sl .str), .n, .d (.sl .str), .n] (t6, t7, z0, ([] : List UInt8), (0 : Int), h3_0, z1, z2, z3, z4, z5, z6, ()))) k t6 t7 n t8 h4_0v h4_0n h7r h7v h8r h8v := by
  intro n
  induction n with
  | zero => intros; rfl
  | succ n ih =>
    intro t8 h4_0v h4_0n h7r h7v h8r h8v
    rw [st6_0_1 d k n K t6 t7 t8 h3_0 h4_0v h4_0n h7r h7v h8r h8v]
    simp only [ih]
    rfl
theorem st6_0_0 {ρ : Type} (d k n : Nat) (K : Ex → St → Option ρ) (t6 : List (List UInt8)) (t7 : Int) (t8 : Int) (h3_0 : List UInt8) : evLoop (en6_0.F tb6 e6 35 k (d + en6_0.need)) (en6_0.gc e6 35) (n + 1) (fillH P6_2 [.d (.sl .str), .d (.int .i64), .d (.int .i64), .d .str] (t6, t7, t8, h3_0, ())) (en6_0.KX e6 35 K) =
    T6_0_0 k (fun (t8' : Int) => evLoop (en6_0.F tb6 e6 35 k (d + en6_0.need)) (en6_0.gc e6 35) n (fillH P6_2 [.d (.sl .str), .d (.int .i64), .d (.int .i64), .d .str] (t6, t7, t8', h3_0, ())) (en6_0.KX e6 35 K)) (fun (t8' : Int) (h4_0v' : Nat) (h4_0n' : Nat) (h7r' : List (List UInt8)) (h7v' : Nat) (h8r' : List (List UInt8)) (h8v' : Nat) => evLoop (en6_0.F tb6 e6 35 k (d + en6_0.need)) (en6_0.gc e6 35) n (fillH P6_16 [.d (.sl .str), .d (.int .i64), .d (.int .i64), .d .str, .n, .n, .d (.sl .str), .n, .d (.sl .str), .n] (t6, t7, t8', h3_0, h4_0v', h4_0n', h7r', h7v', h8r', h8v', ())) (en6_0.KX e6 35 K)) (fun (z0 : Int) => K (.exit 0) (fillH P6_0 [.d (.sl .str), .d (.int .i64), .d (.int .i64), .d .str, .d (.int .i64), .d .str] (t6, t7, z0, ([] : List UInt8), (0 : Int), h3_0, ()))) (fun (z0 : Int) (z1 : Nat) (z2 : Nat) (z3 : List (List UInt8)) (z4 : Nat) (z5 : List (List UInt8)) (z6 : Nat) => K (.exit 0) (fillH P6_1 [.d (.sl .str), .d (.int .i64), .d (.int .i64), .d .str, .d (.int .i64), .d .str, .n, .n, .d (.sl .str), .n, .d (.sl .str), .n] (t6, t7, z0, ([] : List UInt8), (0 : Int), h3_0, z1, z2, z3, z4, z5, z6, ()))) t6 t7 t8 := by kernel_rfl
theorem go6_0_0 {ρ : Type} (d k : Nat) (K : Ex → St → Option ρ) (t6 : List (List UInt8)) (t7 : Int) (h3_0 : List UInt8) : ∀ (n : Nat) (t8 : Int), evLoop (en6_0.F tb6 e6 35 k (d + en6_0.need)) (en6_0.gc e6 35) n (fillH P6_2 [.d (.sl .str), .d (.int .i64), .d (.int .i64), .d .str] (t6, t7, t8, h3_0, ())) (en6_0.KX e6 35 K) = L6_0_0 (fun (z0 : Int) => K (.exit 0) (fillH P6_0 [.d (.sl .str), .d (.int .i64), .d (.int .i64), .d .str, .d (.int .i64), .d .str] (t6, t7, z0, ([] : List UInt8), (0 : Int), h3_0, ()))) (fun (z0 : Int) (z1 : Nat) (z2 : Nat) (z3 : List (List UInt8)) (z4 : Nat) (z5 : List (List UInt8)) (z6 : Nat) => K (.exit 0) (fillH P6_1 [.d (.sl .str), .d (.int .i64), .d (.int .i64), .d .str, .d (.int .i64), .d .str, .n, .n, .d (.sl .str), .n, .d (.sl .str), .n] (t6, t7, z0, ([] : List UInt8), (0 : Int), h3_0, z1, z2, z3, z4, z5, z6, ()))) k t6 t7 n t8 := by
  intro n
  induction n with
  | zero => intros; rfl
  | succ n ih =>
    intro t8
    rw [st6_0_0 d k n K t6 t7 t8 h3_0]
    simp only [ih, go6_0_1 d k K]
    rfl
theorem ok6_0 (k : Nat) : en6_0.Ok tb6 e6 k 35 := fun ρ d v K => (go6_0_0 d k K v.1 v.2.1 v.2.2.2.1 k v.2.2.1).symm
theorem st6_1_1 {ρ : Type} (d k n : Nat) (K : Ex → St → Option ρ) (t6 : List (List UInt8)) (t7 : Int) (t8 : Int) (h2_0v : Nat) (h2_0n : Nat) (h3_0 : List UInt8) (h4_0 : List UInt8) (h7r : List (List UInt8)) (h7v : Nat) (h8r : List (List UInt8)) (h8v : Nat) : evLoop (en6_1.F tb6 e6 35 k (d + en6_1.need)) (en6_1.gc e6 35) (n + 1) (fillH P6_17 [.d (.sl .str), .d (.int .i64), .d (.int .i64), .n, .n, .d .str, .d .str, .d (.sl .str), .n, .d (.sl .str), .n] (t6, t7, t8, h2_0v, h2_0n, h3_0, h4_0, h7r, h7v, h8r, h8v, ())) (en6_1.KX e6 35 K) =
    T6_1_1 k (fun (t8' : Int) (h2_0v' : Nat) (h2_0n' : Nat) (h7r' : List (List UInt8)) (h7v' : Nat) (h8r' : List (List UInt8)) (h8v' : Nat) => evLoop (en6_1.F tb6 e6 35 k (d + en6_1.need)) (en6_1.gc e6 35) n (fillH P6_17 [.d (.sl .str), .d (.int .i64), .d (.int .i64), .n, .n, .d .str, .d .str, .d (.sl .str), .n, .d (.sl .str), .n] (t6, t7, t8', h2_0v', h2_0n', h3_0, h4_0, h7r', h7v', h8r', h8v', ())) (en6_1.KX e6 35 K)) (fun (z0 : Int) (z1 : Int) => K .ret (fillH P6_3 [.d (.sl .str), .d (.int .i64), .d (.int .i64), .d .str, .d (.int .i64), .d .str, .d .str] (t6, t7, z0, ([] : List UInt8), z1, h3_0, h4_0, ()))) (fun (z0 : Int) => K (.exit 0) (fillH P6_4 [.d (.sl .str), .d (.int .i64), .d (.int .i64), .d .str, .d (.int .i64), .d .str, .d .str] (t6, t7, z0, ([] : List UInt8), (0 : Int), h3_0, h4_0, ()))) (fun (z0 : Int) (z1 : Int) (z2 : Nat) (z3 : Nat) (z4 : List (List UInt8)) (z5 : Nat) (z6 : List (List UInt8)) (z7 : Nat) => K .ret (fillH P6_5 [.d (.sl .str), .d (.int .i64), .d (.int .i64), .d .str, .d (.int .i64), .n, .n, .d .str, .d .str, .d (.sl .str), .n, .d (.sl .str), .n] (t6, t7, z0, ([] : List UInt8), z1, z2, z3, h3_0, h4_0, z4, z5, z6, z7, ()))) (fun (z0 : Int) (z1 : Nat) (z2 : Nat) (z3 : List (List UInt8)) (z4 : Nat) (z5 : List (List UInt8)) (z6 : Nat) => K (.exit 0) (fillH P6_6 [.d (.sl .str), .d (.int .i64), .d (.int .i64), .d .str, .d (.int .i64), .n, .n, .d .str, .d .str, .d (.sl .str), .n, .d (.sl .str), .n] (t6, t7, z0, ([] : List UInt8), (0 : Int), z1, z2, h3_0, h4_0, z3, z4, z5, z6, ()))) t6 t7 t8 h2_0v h2_0n h7r h7v h8r h8v := by kernel_rfl
theorem go6_1_1 {ρ : Type} (d k : Nat) (K : Ex → St → Option ρ) (t6 : List (List UInt8)) (t7 : Int) (h3_0 : List UInt8) (h4_0 : List UInt8) : ∀ (n : Nat) (t8 : Int) (h2_0v : Nat) (h2_0n : Nat) (h7r : List (List UInt8)) (h7v : Nat) (h8r : List (List UInt8)) (h8v : Nat), evLoop (en6_1.F tb6 e6 35 k (d + en6_1.need)) (en6_1.gc e6 35) n (fillH P6_17 [.d (.sl .str), .d (.int .i64), .d (.int .i64), .n, .n, .d .str, .d .str, .d (.sl .str), .n, .d (.sl .str), .n] (t6, t7, t8, h2_0v, h2_0n, h3_0, h4_0, h7r, h7v, h8r, h8v, ())) (en6_1.KX e6 35 K) = L6_1_1 (fun (z0 : Int) (z1 : Int) => K .ret (fillH P6_3 [.d (.sl .str), .d (.int .i64), .d (.int .i64), .d .str, .d (.int .i64), .d .str, .d .str] (t6, t7, z0, ([] : List UInt8), z1, h3_0, h4_0, ()))) (fun (z0 : Int) => K (.exit 0) (fillH P6_4 [.d (.sl .str), .d (.int .i64), .d (.int .i64), .d .str, .d (.int .i64), .d .str, .d .str] (t6, t7, z0, ([] : List UInt8), (0 : Int), h3_0, h4_0, ()))) (fun (z0 : Int) (z1 : Int) (z2 : Nat) (z3 : Nat) (z4 : List (List UInt8)) (z5 : Nat) (z6 : List (List UInt8)) (z7 : Nat) => K .ret (fillH P6_5 [.d (.sl .str), .d (.int .i64), .d (.int .i64), .d .str, .d (.int .i64), .n, .n, .d .str, .d .str, .d (.sl .str), .n, .d (.sl .str), .n] (t6, t7, z0, ([] : List UInt8), z1, z2, z3, h3_0, h4_0, z4, z5, z6, z7, ()))) (fun (z0 : Int) (z1 : Nat) (z2 : Nat) (z3 : List (List UInt8)) (z4 : Nat) (z5 : List (List UInt8)) (z6 : Nat) => K (.exit 0) (fillH P6_6 [.d (.sl .str), .d (.int .i64), .d (.int .i64), .d .str, .d (.int .i64), .n, .n, .d .str, .d .str, .d (.sl .str), .n, .d (.sl .str), .n] (t6, t7, z0, ([] : List UInt8), (0 : Int), z1, z2, h3_0, h4_0, z3, z4, z5, z6, ()))) k t6 t7 n t8 h2_0v h2_0n h7r h7v h8r h8v := by
  intro n
  induction n with
  | zero => intros; rfl
  | succ n ih =>
    intro t8 h2_0v h2_0n h7r h7v h8r h8v
    rw [st6_1_1 d k n K t6 t7 t8 h2_0v h2_0n h3_0 h4_0 h7r h7v h8r h8v]
    simp only [ih]
    rfl
theorem st6_1_0 {ρ : Type} (d k n : Nat) (K : Ex → St → Option ρ) (t6 : List (List UInt8)) (t7 : Int) (t8 : Int) (h3_0 : List UInt8) (h4_0 : List UInt8) : evLoop (en6_1.F tb6 e6 35 k (d + en6_1.need)) (en6_1.gc e6 35) (n + 1) (fillH P6_7 [.d (.sl .str), .d (.int .i64), .d (.int .i64), .d .str, .d .str] (t6, t7, t8, h3_0, h4_0, ())) (en6_1.KX e6 35 K) =
    T6_1_0 k (fun (t8' : Int) => evLoop (en6_1.F tb6 e6 35 k (d + en6_1.need)) (en6_1.gc e6 35) n (fillH P6_7 [.d (.sl .str), .d (.int .i64), .d (.int .i64), .d .str, .d .str] (t6, t7, t8', h3_0, h4_0, ())) (en6_1.KX e6 35 K)) (fun (t8' : Int) (h2_0v' : Nat) (h2_0n' : Nat) (h7r' : List (List UInt8)) (h7v' : Nat) (h8r' : List (List UInt8)) (h8v' : Nat) => evLoop (en6_1.F tb6 e6 35 k (d + en6_1.need)) (en6_1.gc e6 35) n (fillH P6_17 [.d (.sl .str), .d (.int .i64), .d (.int .i64), .n, .n, .d .str, .d .str, .d (.sl .str), .n, .d (.sl .str), .n] (t6, t7, t8', h2_0v', h2_0n', h3_0, h4_0, h7r', h7v', h8r', h8v', ())) (en6_1.KX e6 35 K)) (fun (z0 : Int) (z1 : Int) => K .ret (fillH P6_3 [.d (.sl .str), .d (.int .i64), .d (.int .i64), .d .str, .d (.int .i64), .d .str, .d .str] (t6, t7, z0, ([] : List UInt8), z1, h3_0, h4_0, ()))) (fun (z0 : Int) => K (.exit 0) (fillH P6_4 [.d (.sl .str), .d (.int .i64), .d (.int .i64), .d .str, .d (.int .i64), .d .str, .d .str] (t6, t7, z0, ([] : List UInt8), (0 : Int), h3_0, h4_0, ()))) (fun (z0 : Int) (z1 : Int) (z2 : Nat) (z3 : Nat) (z4 : List (List UInt8)) (z5 : Nat) (z6 : List (List UInt8)) (z7 : Nat) => K .ret (fillH P6_5 [.d (.sl .str), .d (.int .i64), .d (.int .i64), .d .str, .d (.int .i64), .n, .n, .d .str, .d .str, .d (.sl .str), .n, .d (.sl .str), .n] (t6, t7, z0, ([] : List UInt8), z1, z2, z3, h3_0, h4_0, z4, z5, z6, z7, ()))) (fun (z0 : Int) (z1 : Nat) (z2 : Nat) (z3 : List (List UInt8)) (z4 : Nat) (z5 : List (List UInt8)) (z6 : Nat) => K (.exit 0) (fillH P6_6 [.d (.sl .str), .d (.int .i64), .d (.int .i64), .d .str, .d (.int .i64), .n, .n, .d .str, .d .str, .d (.sl .str), .n, .d (.sl .str), .n] (t6, t7, z0, ([] : List UInt8), (0 : Int), z1, z2, h3_0, h4_0, z3, z4, z5, z6, ()))) t6 t7 t8 := by kernel_rfl
theorem go6_1_0 {ρ : Type} (d k : Nat) (K : Ex → St → Option ρ) (t6 : List (List UInt8)) (t7 : Int) (h3_0 : List UInt8) (h4_0 : List UInt8) : ∀ (n : Nat) (t8 : Int), evLoop (en6_1.F tb6 e6 35 k (d + en6_1.need)) (en6_1.gc e6 35) n (fillH P6_7 [.d (.sl .str), .d (.int .i64), .d (.int .i64), .d .str, .d .str] (t6, t7, t8, h3_0, h4_0, ())) (en6_1.KX e6 35 K) = L6_1_0 (fun (z0 : Int) (z1 : Int) => K .ret (fillH P6_3 [.d (.sl .str), .d (.int .i64), .d (.int .i64), .d .str, .d (.int .i64), .d .str, .d .str] (t6, t7, z0, ([] : List UInt8), z1, h3_0, h4_0, ()))) (fun (z0 : Int) => K (.exit 0) (fillH P6_4 [.d (.sl .str), .d (.int .i64), .d (.int .i64), .d .str, .d (.int .i64), .d .str, .d .str] (t6, t7, z0, ([] : List UInt8), (0 : Int), h3_0, h4_0, ()))) (fun (z0 : Int) (z1 : Int) (z2 : Nat) (z3 : Nat) (z4 : List (List UInt8)) (z5 : Nat) (z6 : List (List UInt8)) (z7 : Nat) => K .ret (fillH P6_5 [.d (.sl .str), .d (.int .i64), .d (.int .i64), .d .str, .d (.int .i64), .n, .n, .d .str, .d .str, .d (.sl .str), .n, .d (.sl .str), .n] (t6, t7, z0, ([] : List UInt8), z1, z2, z3, h3_0, h4_0, z4, z5, z6, z7, ()))) (fun (z0 : Int) (z1 : Nat) (z2 : Nat) (z3 : List (List UInt8)) (z4 : Nat) (z5 : List (List UInt8)) (z6 : Nat) => K (.exit 0) (fillH P6_6 [.d (.sl .str), .d (.int .i64), .d (.int .i64), .d .str, .d (.int .i64), .n, .n, .d .str, .d .str, .d (.sl .str), .n, .d (.sl .str), .n] (t6, t7, z0, ([] : List UInt8), (0 : Int), z1, z2, h3_0, h4_0, z3, z4, z5, z6, ()))) k t6 t7 n t8 := by
  intro n
  induction n with
  | zero => intros; rfl
  | succ n ih =>
    intro t8
    rw [st6_1_0 d k n K t6 t7 t8 h3_0 h4_0]
    simp only [ih, go6_1_1 d k K]
    rfl
theorem ok6_1 (k : Nat) : en6_1.Ok tb6 e6 k 35 := fun ρ d v K => (go6_1_0 d k K v.1 v.2.1 v.2.2.2.1 v.2.2.2.2.1 k v.2.2.1).symm
theorem st6_2_0 {ρ : Type} (d k n : Nat) (K : Ex → St → Option ρ) (t6 : List (List UInt8)) (t7 : Int) (t8 : Int) (h2_0v : Nat) (h2_0n : Nat) (h3_0 : List UInt8) (h4_0v : Nat) (h4_0n : Nat) (h7r : List (List UInt8)) (h7v : Nat) (h8r : List (List UInt8)) (h8v : Nat) (h9_0 : List UInt8) : evLoop (en6_2.F tb6 e6 35 k (d + en6_2.need)) (en6_2.gc e6 35) (n + 1) (fillH P6_10 [.d (.sl .str), .d (.int .i64), .d (.int .i64), .n, .n, .d .str, .n, .n, .d (.sl .str), .n, .d (.sl .str), .n, .d .str] (t6, t7, t8, h2_0v, h2_0n, h3_0, h4_0v, h4_0n, h7r, h7v, h8r, h8v, h9_0, ())) (en6_2.KX e6 35 K) =
    T6_2_0 k (fun (t8' : Int) (h2_0v' : Nat) (h2_0n' : Nat) (h8r' : List (List UInt8)) (h8v' : Nat) => evLoop (en6_2.F tb6 e6 35 k (d + en6_2.need)) (en6_2.gc e6 35) n (fillH P6_10 [.d (.sl .str), .d (.int .i64), .d (.int .i64), .n, .n, .d .str, .n, .n, .d (.sl .str), .n, .d (.sl .str), .n, .d .str] (t6, t7, t8', h2_0v', h2_0n', h3_0, h4_0v, h4_0n, h7r, h7v, h8r', h8v', h9_0, ())) (en6_2.KX e6 35 K)) (fun (z0 : Int) (z1 : Int) (z2 : Nat) (z3 : Nat) (z4 : List (List UInt8)) (z5 : Nat) => K .ret (fillH P6_8 [.d (.sl .str), .d (.int .i64), .d (.int .i64), .d .str, .d (.int .i64), .n, .n, .d .str, .n, .n, .d (.sl .str), .n, .d (.sl .str), .n, .d .str] (t6, t7, z0, ([] : List UInt8), z1, z2, z3, h3_0, h4_0v, h4_0n, h7r, h7v, z4, z5, h9_0, ()))) (fun (z0 : Int) (z1 : Nat) (z2 : Nat) (z3 : List (List UInt8)) (z4 : Nat) => K (.exit 0) (fillH P6_9 [.d (.sl .str), .d (.int .i64), .d (.int .i64), .d .str, .d (.int .i64), .n, .n, .d .str, .n, .n, .d (.sl .str), .n, .d (.sl .str), .n, .d .str] (t6, t7, z0, ([] : List UInt8), (0 : Int), z1, z2, h3_0, h4_0v, h4_0n, h7r, h7v, z3, z4, h9_0, ()))) t6 t7 t8 h2_0v h2_0n h8r h8v := by kernel_rfl
theorem go6_2_0 {ρ : Type} (d k : Nat) (K : Ex → St → Option ρ) (t6 : List (List UInt8)) (t7 : Int) (h3_0 : List UInt8) (h4_0v : Nat) (h4_0n : Nat) (h7r : List (List UInt8)) (h7v : Nat) (h9_0 : List UInt8) : ∀ (n : Nat) (t8 : Int) (h2_0v : Nat) (h2_0n : Nat) (h8r : List (List UInt8)) (h8v : Nat), evLoop (en6_2.F tb6 e6 35 k (d + en6_2.need)) (en6_2.gc e6 35) n (fillH P6_10 [.d (.sl .str), .d (.int .i64), .d (.int .i64), .n, .n, .d .str, .n, .n, .d (.sl .str), .n, .d (.sl .str), .n, .d .str] (t6, t7, t8, h2_0v, h2_0n, h3_0, h4_0v, h4_0n, h7r, h7v, h8r, h8v, h9_0, ())) (en6_2.KX e6 35 K) = L6_2_0 (fun (z0 : Int) (z1 : Int) (z2 : Nat) (z3 : Nat) (z4 : List (List UInt8)) (z5 : Nat) => K .ret (fillH P6_8 [.d (.sl .str), .d (.int .i64), .d (.int .i64), .d .str, .d (.int .i64), .n, .n, .d .str, .n, .n, .d (.sl .str), .n, .d (.sl .str), .n, .d .str] (t6, t7, z0, ([] : List UInt8), z1, z2, z3, h3_0, h4_0v, h4_0n, h7r, h7v, z4, z5, h9_0, ()))) (fun (z0 : Int) (z1 : Nat) (z2 : Nat) (z3 : List (List UInt8)) (z4 : Nat) => K (.exit 0) (fillH P6_9 [.d (.sl .str), .d (.int .i64), .d (.int .i64), .d .str, .d (.int .i64), .n, .n, .d .str, .n, .n, .d (.sl .str), .n, .d (.sl .str), .n, .d .str] (t6, t7, z0, ([] : List UInt8), (0 : Int), z1, z2, h3_0, h4_0v, h4_0n, h7r, h7v, z3, z4, h9_0, ()))) k t6 t7 n t8 h2_0v h2_0n h8r h8v := by
  intro n
  induction n with
  | zero => intros; rfl
  | succ n ih =>
    intro t8 h2_0v h2_0n h8r h8v
    rw [st6_2_0 d k n K t6 t7 t8 h2_0v h2_0n h3_0 h4_0v h4_0n h7r h7v h8r h8v h9_0]
    simp only [ih]
    rfl
theorem ok6_2 (k : Nat) : en6_2.Ok tb6 e6 k 35 := fun ρ d v K => (go6_2_0 d k K v.1 v.2.1 v.2.2.2.2.2.1 v.2.2.2.2.2.2.1 v.2.2.2.2.2.2.2.1 v.2.2.2.2.2.2.2.2.1 v.2.2.2.2.2.2.2.2.2.1 v.2.2.2.2.2.2.2.2.2.2.2.2.1 k v.2.2.1 v.2.2.2.1 v.2.2.2.2.1 v.2.2.2.2.2.2.2.2.2.2.1 v.2.2.2.2.2.2.2.2.2.2.2.1).symm
theorem st6_3_1 {ρ : Type} (d k n : Nat) (K : Ex → St → Option ρ) (t6 : List (List UInt8)) (t7 : Int) (t8 : Int) (h2_0v : Nat) (h2_0n : Nat) (h3_0 : List UInt8) (h6r : List (List UInt8)) (h6v : Nat) (h7r : List (List UInt8)) (h7v : Nat) : evLoop (en6_3.F tb6 e6 35 k (d + en6_3.need)) (en6_3.gc e6 35) (n + 1) (fillH P6_18 [.d (.sl .str), .d (.int .i64), .d (.int .i64), .n, .n, .d .str, .d (.sl .str), .n, .d (.sl .str), .n] (t6, t7, t8, h2_0v, h2_0n, h3_0, h6r, h6v, h7r, h7v, ())) (en6_3.KX e6 35 K) =
    T6_3_1 k (fun (t8' : Int) (h2_0v' : Nat) (h2_0n' : Nat) (h6r' : List (List UInt8)) (h6v' : Nat) (h7r' : List (List UInt8)) (h7v' : Nat) => evLoop (en6_3.F tb6 e6 35 k (d + en6_3.need)) (en6_3.gc e6 35) n (fillH P6_18 [.d (.sl .str), .d (.int .i64), .d (.int .i64), .n, .n, .d .str, .d (.sl .str), .n, .d (.sl .str), .n] (t6, t7, t8', h2_0v', h2_0n', h3_0, h6r', h6v', h7r', h7v', ())) (en6_3.KX e6 35 K)) (fun (z0 : Int) (z1 : Int) => K .ret (fillH P6_11 [.d (.sl .str), .d (.int .i64), .d (.int .i64), .d .str, .d (.int .i64), .d .str] (t6, t7, z0, ([] : List UInt8), z1, h3_0, ()))) (fun (z0 : Int) => K (.exit 0) (fillH P6_12 [.d (.sl .str), .d (.int .i64), .d (.int .i64), .d .str, .d (.int .i64), .d .str] (t6, t7, z0, ([] : List UInt8), (0 : Int), h3_0, ()))) (fun (z0 : Int) (z1 : Int) (z2 : Nat) (z3 : Nat) (z4 : List (List UInt8)) (z5 : Nat) (z6 : List (List UInt8)) (z7 : Nat) => K .ret (fillH P6_13 [.d (.sl .str), .d (.int .i64), .d (.int .i64), .d .str, .d (.int .i64), .n, .n, .d .str, .d (.sl .str), .n, .d (.sl .str), .n] (t6, t7, z0, ([] : List UInt8), z1, z2, z3, h3_0, z4, z5, z6, z7, ()))) (fun (z0 : Int) (z1 : Nat) (z2 : Nat) (z3 : List (List UInt8)) (z4 : Nat) (z5 : List (List UInt8)) (z6 : Nat) => K (.exit 0) (fillH P6_14 [.d (.sl .str), .d (.int .i64), .d (.int .i64), .d .str, .d (.int .i64), .n, .n, .d .str, .d (.sl .str), .n, .d (.sl .str), .n] (t6, t7, z0, ([] : List UInt8), (0 : Int), z1, z2, h3_0, z3, z4, z5, z6, ()))) t6 t7 t8 h2_0v h2_0n h6r h6v h7r h7v := by kernel_rfl
theorem go6_3_1 {ρ : Type} (d k : Nat) (K : Ex → St → Option ρ) (t6 : List (List UInt8)) (t7 : Int) (h3_0 : List UInt8) : ∀ (n : Nat) (t8 : Int) (h2_0v : Nat) (h2_0n : Nat) (h6r : List (List UInt8)) (h6v : Nat) (h7r : List (List UInt8)) (h7v : Nat), evLoop (en6_3.F tb6 e6 35 k (d + en6_3.need)) (en6_3.gc e6 35) n (fillH P6_18 [.d (.sl .str), .d (.int .i64), .d (.int .i64), .n, .n, .d .str, .d (.sl .str), .n, .d (.sl .str), .n] (t6, t7, t8, h2_0v, h2_0n, h3_0, h6r, h6v, h7r, h7v, ())) (en6_3.KX e6 35 K) = L6_3_1 (fun (z0 : Int) (z1 : Int) => K .ret (fillH P6_11 [.d (.sl .str), .d (.int .i64), .d (.int .i64), .d .str, .d (.int .i64), .d .str] (t6, t7, z0, ([] : List UInt8), z1, h3_0, ()))) (fun (z0 : Int) => K (.exit 0) (fillH P6_12 [.d (.sl .str), .d (.int .i64), .d (.int .i64), .d .str, .d (.int .i64), .d .str] (t6, t7, z0, ([] : List UInt8), (0 : Int), h3_0, ()))) (fun (z0 : Int) (z1 : Int) (z2 : Nat) (z3 : Nat) (z4 : List (List UInt8)) (z5 : Nat) (z6 : List (List UInt8)) (z7 : Nat) => K .ret (fillH P6_13 [.d (.sl .str), .d (.int .i64), .d (.int .i64), .d .str, .d (.int .i64), .n, .n, .d .str, .d (.sl .str), .n, .d (.sl .str), .n] (t6, t7, z0, ([] : List UInt8), z1, z2, z3, h3_0, z4, z5, z6, z7, ()))) (fun (z0 : Int) (z1 : Nat) (z2 : Nat) (z3 : List (List UInt8)) (z4 : Nat) (z5 : List (List UInt8)) (z6 : Nat) => K (.exit 0) (fillH P6_14 [.d (.sl .str), .d (.int .i64), .d (.int .i64), .d .str, .d (.int .i64), .n, .n, .d .str, .d (.sl .str), .n, .d (.sl .str), .n] (t6, t7, z0, ([] : List UInt8), (0 : Int), z1, z2, h3_0, z3, z4, z5, z6, ()))) k t6 t7 n t8 h2_0v h2_0n h6r h6v h7r h7v := by
  intro n
  induction n with
  | zero => intros; rfl
  | succ n ih =>
    intro t8 h2_0v h2_0n h6r h6v h7r h7v
    rw [st6_3_1 d k n K t6 t7 t8 h2_0v h2_0n h3_0 h6r h6v h7r h7v]
    simp only [ih]
    rfl
theorem st6_3_0 {ρ : Type} (d k n : Nat) (K : Ex → St → Option ρ) (t6 : List (List UInt8)) (t7 : Int) (t8 : Int) (h3_0 : List UInt8) : evLoop (en6_3.F tb6 e6 35 k (d + en6_3.need)) (en6_3.gc e6 35) (n + 1) (fillH P6_15 [.d (.sl .str), .d (.int .i64), .d (.int .i64), .d .str] (t6, t7, t8, h3_0, ())) (en6_3.KX e6 35 K) =
    T6_3_0 k (fun (t8' : Int) => evLoop (en6_3.F tb6 e6 35 k (d + en6_3.need)) (en6_3.gc e6 35) n (fillH P6_15 [.d (.sl .str), .d (.int .i64), .d (.int .i64), .d .str] (t6, t7, t8', h3_0, ())) (en6_3.KX e6 35 K)) (fun (t8' : Int) (h2_0v' : Nat) (h2_0n' : Nat) (h6r' : List (List UInt8)) (h6v' : Nat) (h7r' : List (List UInt8)) (h7v' : Nat) => evLoop (en6_3.F tb6 e6 35 k (d + en6_3.need)) (en6_3.gc e6 35) n (fillH P6_18 [.d (.sl .str), .d (.int .i64), .d (.int .i64), .n, .n, .d .str, .d (.sl .str), .n, .d (.sl .str), .n] (t6, t7, t8', h2_0v', h2_0n', h3_0, h6r', h6v', h7r', h7v', ())) (en6_3.KX e6 35 K)) (fun (z0 : Int) (z1 : Int) => K .ret (fillH P6_11 [.d (.sl .str), .d (.int .i64), .d (.int .i64), .d .str, .d (.int .i64), .d .str] (t6, t7, z0, ([] : List UInt8), z1, h3_0, ()))) (fun (z0 : Int) => K (.exit 0) (fillH P6_12 [.d (.sl .str), .d (.int .i64), .d (.int .i64), .d .str, .d (.int .i64), .d .str] (t6, t7, z0, ([] : List UInt8), (0 : Int), h3_0, ()))) (fun (z0 : Int) (z1 : Int) (z2 : Nat) (z3 : Nat) (z4 : List (List UInt8)) (z5 : Nat) (z6 : List (List UInt8)) (z7 : Nat) => K .ret (fillH P6_13 [.d (.sl .str), .d (.int .i64), .d (.int .i64), .d .str, .d (.int .i64), .n, .n, .d .str, .d (.sl .str), .n, .d (.sl .str), .n] (t6, t7, z0, ([] : List UInt8), z1, z2, z3, h3_0, z4, z5, z6, z7, ()))) (fun (z0 : Int) (z1 : Nat) (z2 : Nat) (z3 : List (List UInt8)) (z4 : Nat) (z5 : List (List UInt8)) (z6 : Nat) => K (.exit 0) (fillH P6_14 [.d (.sl .str), .d (.int .i64), .d (.int .i64), .d .str, .d (.int .i64), .n, .n, .d .str, .d (.sl .str), .n, .d (.sl .str), .n] (t6, t7, z0, ([] : List UInt8), (0 : Int), z1, z2, h3_0, z3, z4, z5, z6, ()))) t6 t7 t8 := by kernel_rfl
theorem go6_3_0 {ρ : Type} (d k : Nat) (K : Ex → St → Option ρ) (t6 : List (List UInt8)) (t7 : Int) (h3_0 : List UInt8) : ∀ (n : Nat) (t8 : Int), evLoop (en6_3.F tb6 e6 35 k (d + en6_3.need)) (en6_3.gc e6 35) n (fillH P6_15 [.d (.sl .str), .d (.int .i64), .d (.int .i64), .d .str] (t6, t7, t8, h3_0, ())) (en6_3.KX e6 35 K) = L6_3_0 (fun (z0 : Int) (z1 : Int) => K .ret (fillH P6_11 [.d (.sl .str), .d (.int .i64), .d (.int .i64), .d .str, .d (.int .i64), .d .str] (t6, t7, z0, ([] : List UInt8), z1, h3_0, ()))) (fun (z0 : Int) => K (.exit 0) (fillH P6_12 [.d (.sl .str), .d (.int .i64), .d (.int .i64), .d .str, .d (.int .i64), .d .str] (t6, t7, z0, ([] : List UInt8), (0 : Int), h3_0, ()))) (fun (z0 : Int) (z1 : Int) (z2 : Nat) (z3 : Nat) (z4 : List (List UInt8)) (z5 : Nat) (z6 : List (List UInt8)) (z7 : Nat) => K .ret (fillH P6_13 [.d (.sl .str), .d (.int .i64), .d (.int .i64), .d .str, .d (.int .i64), .n, .n, .d .str, .d (.sl .str), .n, .d (.sl .str), .n] (t6, t7, z0, ([] : List UInt8), z1, z2, z3, h3_0, z4, z5, z6, z7, ()))) (fun (z0 : Int) (z1 : Nat) (z2 : Nat) (z3 : List (List UInt8)) (z4 : Nat) (z5 : List (List UInt8)) (z6 : Nat) => K (.exit 0) (fillH P6_14 [.d (.sl .str), .d (.int .i64), .d (.int .i64), .d .str, .d (.int .i64), .n, .n, .d .str, .d (.sl .str), .n, .d (.sl .str), .n] (t6, t7, z0, ([] : List UInt8), (0 : Int), z1, z2, h3_0, z3, z4, z5, z6, ()))) k t6 t7 n t8 := by
  intro n
  induction n with
  | zero => intros; rfl
  | succ n ih =>
    intro t8
    rw [st6_3_0 d k n K t6 t7 t8 h3_0]
    simp only [ih, go6_3_1 d k K]
    rfl
theorem ok6_3 (k : Nat) : en6_3.Ok tb6 e6 k 35 := fun ρ d v K => (go6_3_0 d k K v.1 v.2.1 v.2.2.2.1 k v.2.2.1).symm
noncomputable def fn6 (k : Nat) (x0 : List UInt8) (x1 : List UInt8) : Option (DenL [.str, (.int .i64)]) :=
  bif (x1 == ([] : List UInt8)) then (
    some (([] : List UInt8), (2 : Int), ()))
  else (
    bif (decide (((x1).length : Int) > (255 : Int))) then (
      some (([] : List UInt8), (36 : Int), ()))
    else (
      if (inR (0 : Int) (x1).length) then (
        bif ((byteAt x1 0) != (47 : Int)) then (
          bif (cIsPath.pre (x0, ())) then (
            bif (isPathS x0) then (
              bif (cSplit.pre (x0, ([47] : List UInt8), ())) then (
                L6_0_0 (fun (y1 : Int) =>
                  bif (cSplit.pre (x1, ([47] : List UInt8), ())) then (
                    L6_1_0 (fun (y2 : Int) (y3 : Int) =>
                      some (([] : List UInt8), y3, ())) (fun (y4 : Int) =>
                      bif (cJoin.pre (([] : List (List UInt8)), ([47] : List UInt8), ())) then (
                        if (((([47] : List UInt8)).length + ((joinS ([] : List (List UInt8)))).length : Nat) : Int) ≤ 9223372036854775807 then (
                          bif (decide ((((([47] : List UInt8) ++ (joinS ([] : List (List UInt8))))).length : Int) > (255 : Int))) then (
                            some (([] : List UInt8), (36 : Int), ()))
                          else (
                            some ((([47] : List UInt8) ++ (joinS ([] : List (List UInt8)))), (0 : Int), ()))) else none) else none) (fun (y5 : Int) (y6 : Int) (y7 : Nat) (y8 : Nat) (y9 : List (List UInt8)) (y10 : Nat) (y11 : List (List UInt8)) (y12 : Nat) =>
                      some (([] : List UInt8), y6, ())) (fun (y13 : Int) (y14 : Nat) (y15 : Nat) (y16 : List (List UInt8)) (y17 : Nat) (y18 : List (List UInt8)) (y19 : Nat) =>
                      if (y14 = y19) then (
                        bif (cJoin.pre ((List.take y15 (List.drop 0 y18)), ([47] : List UInt8), ())) then (
                          if (((([47] : List UInt8)).length + ((joinS (List.take y15 (List.drop 0 y18)))).length : Nat) : Int) ≤ 9223372036854775807 then (
                            bif (decide ((((([47] : List UInt8) ++ (joinS (List.take y15 (List.drop 0 y18))))).length : Int) > (255 : Int))) then (
                              some (([] : List UInt8), (36 : Int), ()))
                            else (
                              some ((([47] : List UInt8) ++ (joinS (List.take y15 (List.drop 0 y18)))), (0 : Int), ()))) else none) else none) else none) k (spl 47 x1) (((spl 47 x1)).length : Int) k (0 : Int)) else none) (fun (y20 : Int) (y21 : Nat) (y22 : Nat) (y23 : List (List UInt8)) (y24 : Nat) (y25 : List (List UInt8)) (y26 : Nat) =>
                  bif (cSplit.pre (x1, ([47] : List UInt8), ())) then (
                    L6_2_0 (fun (y27 : Int) (y28 : Int) (y29 : Nat) (y30 : Nat) (y31 : List (List UInt8)) (y32 : Nat) =>
                      some (([] : List UInt8), y28, ())) (fun (y33 : Int) (y34 : Nat) (y35 : Nat) (y36 : List (List UInt8)) (y37 : Nat) =>
                      if (y34 = y37) then (
                        bif (cJoin.pre ((List.take y35 (List.drop 0 y36)), ([47] : List UInt8), ())) then (
                          if (((([47] : List UInt8)).length + ((joinS (List.take y35 (List.drop 0 y36)))).length : Nat) : Int) ≤ 9223372036854775807 then (
                            bif (decide ((((([47] : List UInt8) ++ (joinS (List.take y35 (List.drop 0 y36))))).length : Int) > (255 : Int))) then (
                              some (([] : List UInt8), (36 : Int), ()))
                            else (
                              some ((([47] : List UInt8) ++ (joinS (List.take y35 (List.drop 0 y36)))), (0 : Int), ()))) else none) else none) else none) k (spl 47 x1) (((spl 47 x1)).length : Int) k (0 : Int) y21 y22 y25 y26) else none) k (spl 47 x0) (((spl 47 x0)).length : Int) k (0 : Int)) else none)
            else (
              bif (cSplit.pre (x1, ([47] : List UInt8), ())) then (
                L6_3_0 (fun (y38 : Int) (y39 : Int) =>
                  some (([] : List UInt8), y39, ())) (fun (y40 : Int) =>
                  bif (cJoin.pre (([] : List (List UInt8)), ([47] : List UInt8), ())) then (
                    if (((([47] : List UInt8)).length + ((joinS ([] : List (List UInt8)))).length : Nat) : Int) ≤ 9223372036854775807 then (
                      bif (decide ((((([47] : List UInt8) ++ (joinS ([] : List (List UInt8))))).length : Int) > (255 : Int))) then (
                        some (([] : List UInt8), (36 : Int), ()))
                      else (
                        some ((([47] : List UInt8) ++ (joinS ([] : List (List UInt8)))), (0 : Int), ()))) else none) else none) (fun (y41 : Int) (y42 : Int) (y43 : Nat) (y44 : Nat) (y45 : List (List UInt8)) (y46 : Nat) (y47 : List (List UInt8)) (y48 : Nat) =>
                  some (([] : List UInt8), y42, ())) (fun (y49 : Int) (y50 : Nat) (y51 : Nat) (y52 : List (List UInt8)) (y53 : Nat) (y54 : List (List UInt8)) (y55 : Nat) =>
                  if (y50 = y55) then (
                    bif (cJoin.pre ((List.take y51 (List.drop 0 y54)), ([47] : List UInt8), ())) then (
                      if (((([47] : List UInt8)).length + ((joinS (List.take y51 (List.drop 0 y54)))).length : Nat) : Int) ≤ 9223372036854775807 then (
                        bif (decide ((((([47] : List UInt8) ++ (joinS (List.take y51 (List.drop 0 y54))))).length : Int) > (255 : Int))) then (
                          some (([] : List UInt8), (36 : Int), ()))
                        else (
                          some ((([47] : List UInt8) ++ (joinS (List.take y51 (List.drop 0 y54)))), (0 : Int), ()))) else none) else none) else none) k (spl 47 x1) (((spl 47 x1)).length : Int) k (0 : Int)) else none)) else none)
        else (
          bif (cSplit.pre (x1, ([47] : List UInt8), ())) then (
            L6_3_0 (fun (y56 : Int) (y57 : Int) =>
              some (([] : List UInt8), y57, ())) (fun (y58 : Int) =>
              bif (cJoin.pre (([] : List (List UInt8)), ([47] : List UInt8), ())) then (
                if (((([47] : List UInt8)).length + ((joinS ([] : List (List UInt8)))).length : Nat) : Int) ≤ 9223372036854775807 then (
                  bif (decide ((((([47] : List UInt8) ++ (joinS ([] : List (List UInt8))))).length : Int) > (255 : Int))) then (
                    some (([] : List UInt8), (36 : Int), ()))
                  else (
                    some ((([47] : List UInt8) ++ (joinS ([] : List (List UInt8)))), (0 : Int), ()))) else none) else none) (fun (y59 : Int) (y60 : Int) (y61 : Nat) (y62 : Nat) (y63 : List (List UInt8)) (y64 : Nat) (y65 : List (List UInt8)) (y66 : Nat) =>
              some (([] : List UInt8), y60, ())) (fun (y67 : Int) (y68 : Nat) (y69 : Nat) (y70 : List (List UInt8)) (y71 : Nat) (y72 : List (List UInt8)) (y73 : Nat) =>
              if (y68 = y73) then (
                bif (cJoin.pre ((List.take y69 (List.drop 0 y72)), ([47] : List UInt8), ())) then (
                  if (((([47] : List UInt8)).length + ((joinS (List.take y69 (List.drop 0 y72)))).length : Nat) : Int) ≤ 9223372036854775807 then (
                    bif (decide ((((([47] : List UInt8) ++ (joinS (List.take y69 (List.drop 0 y72))))).length : Int) > (255 : Int))) then (
                      some (([] : List UInt8), (36 : Int), ()))
                    else (
                      some ((([47] : List UInt8) ++ (joinS (List.take y69 (List.drop 0 y72)))), (0 : Int), ()))) else none) else none) else none) k (spl 47 x1) (((spl 47 x1)).length : Int) k (0 : Int)) else none)) else none))
theorem ev6 (k : Nat) (x0 : List UInt8) (x1 : List UInt8) : (orcL tb6 e6 k 5).call 6 (ofRes [.str, .str] (x0, x1, ())) [] (KD [.str, (.int .i64)]) = fn6 k x0 x1 := by kernel_rfl
theorem con6 {k : Nat} {pre : DenL [.str, .str] → Bool} {spec : DenL [.str, .str] → DenL [.str, (.int .i64)]} (hC : ∀ p ∈ cp6s, CpOk Tryd.prog gl p.1 p.2) (hp : ∀ xs, pre xs = true → fn6 k xs.1 xs.2.1 = some (spec xs)) : CpOk Tryd.prog gl 6 { args := [.str, .str], res := [.str, (.int .i64)], pre, spec } :=
  con_of (lps := lp6) (drl := dr6) (kpl := [(6, [(9, [4, 5, 6])]), (34, [(2, [2])]), (35, [(1, [0, 6, 7, 8])])]) (k := k) seatOk hC (by
    unfold lp6
    simp only [List.forall_mem_cons]
    exact ⟨ok6_0 k, ok6_1 k, ok6_2 k, ok6_3 k, fun _ h => by cases h⟩) (fun p h => by cases h) (by kernel_rfl) 5 (fun xs hx => (ev6 k xs.1 xs.2.1).trans (hp xs hx))
end Go.Proofs.YtholnbknimfbhaaDoor

set_option linter.unusedVariables false
set_option linter.unusedSimpArgs false
open Go.Proofs
namespace Go.Proofs.YtholnbknimfbhaaDoor
open Go Go.Fy Go.RowKit

/-- A part that names something: neither empty nor ".". -/
def keepB (x : List UInt8) : Bool := !(x == []) && !(x == [46])
/-- The parts of a text walked behind those that stand; E at a fault, G at the end. -/
def walkK {β : Type} (E : Int → β) (G : List (List UInt8) → β) : List (List UInt8) → List (List UInt8) → β
  | acc, [] => G acc
  | acc, x :: r =>
    bif keepB x then
      bif x == [46, 46] then walkK E G acc.dropLast r
      else bif decide (31 < x.length) then E 36
      else bif isNameS x then walkK E G (acc ++ [x]) r else E 22
    else walkK E G acc r

/-- At most N parts, each of at most 255 bytes. -/
def Sm (N : Nat) (acc : List (List UInt8)) : Prop := acc.length ≤ N ∧ ∀ x ∈ acc, x.length ≤ 255
theorem Sm.dropLast {N : Nat} {acc : List (List UInt8)} (h : Sm N acc) : Sm N acc.dropLast :=
  ⟨by rw [List.length_dropLast]; have := h.1; omega, fun x hx => h.2 x ((List.dropLast_sublist acc).subset hx)⟩
theorem Sm.mono {N M : Nat} {acc : List (List UInt8)} (h : Sm N acc) (hm : N ≤ M) : Sm M acc := ⟨by have := h.1; omega, h.2⟩
theorem Sm.snoc {N : Nat} {acc : List (List UInt8)} {x : List UInt8} (h : Sm N acc) (hx : x.length ≤ 255) : Sm (N + 1) (acc ++ [x]) := by
  refine ⟨by rw [List.length_append]; have := h.1; simp; omega, fun y hy => ?_⟩
  rcases List.mem_append.1 hy with hy | hy
  · exact h.2 y hy
  · rw [List.mem_singleton.1 hy]; exact hx
theorem max_sub (n : Nat) : (if (1 : Int) > (n : Int) then (1 : Int) else (n : Int)) - 1 = ((n - 1 : Nat) : Int) := by
  split <;> omega
theorem take_dropLast {α : Type} {l : List α} {n : Nat} (h : n ≤ l.length) : l.take (n - 1) = (l.take n).dropLast := by
  rw [List.dropLast_eq_take, List.take_take, List.length_take]
  congr 1
  omega
theorem take_snoc {α : Type} {l : List α} {n : Nat} {x : α} (h : n ≤ l.length) : (l.take n ++ [x]).take (n + 1) = l.take n ++ [x] :=
  List.take_of_length_le (by rw [List.length_append, List.length_take]; simp; omega)
theorem drop_at {α : Type} {l : List α} {p : Nat} {b : α} (h : l[p]? = some b) : l.drop p = b :: l.drop (p + 1) := by
  have hp := (List.getElem?_eq_some_iff.1 h)
  rw [List.drop_eq_getElem_cons hp.1, hp.2]
theorem kB (x : List UInt8) {β : Type} (A B : β) : (bif (!(x == ([] : List UInt8))) then (bif (!(x == ([46] : List UInt8))) then A else B) else B) = bif keepB x then A else B := by
  unfold keepB
  cases (x == ([] : List UInt8)) <;> cases (x == ([46] : List UInt8)) <;> rfl
theorem gt31 (x : List UInt8) : decide ((x.length : Int) > (31 : Int)) = decide (31 < x.length) := decide_eq_decide.2 (by omega)

theorem L60_1_ok {ρ : Type} {K0 : Int → Option ρ} {K1 : Int → Nat → Nat → (List (List UInt8)) → Nat → (List (List UInt8)) → Nat → Option ρ} {G : List (List UInt8) → Option ρ} (N : Nat) (hN : N ≤ 100000000)
    (h1 : ∀ i v n r7 v7 r8, n ≤ r8.length → Sm N (r8.take n) → K1 i v n r7 v7 r8 v = G (r8.take n)) (k : Nat) (l : List (List UInt8)) (hm : ∀ x ∈ l, x.length ≤ 255) (hl : l.length ≤ 100000000) :
    ∀ (fuel i v n : Nat) (r7 : List (List UInt8)) (v7 : Nat) (r8 : List (List UInt8)), l.length < fuel + i → 0 < fuel → n ≤ r8.length → n + (l.length - i) ≤ N → Sm N (r8.take n) →
      L6_0_1 K0 K1 k l (l.length : Int) fuel (i : Int) v n r7 v7 r8 v = G (r8.take n ++ (l.drop i).filter keepB)
  | 0, i, v, n, r7, v7, r8, _, h, _, _, _ => by omega
  | fuel + 1, i, v, n, r7, v7, r8, h, _, hn, hb, hs => by
    rw [L6_0_1]
    unfold T6_0_1
    by_cases hp : i < l.length
    · have hx := List.getElem?_eq_getElem hp
      have hx2 := hm _ (List.getElem_mem hp)
      generalize l[i] = x at hx hx2
      have e2 : inR (i : Int) l.length := ⟨by omega, by omega⟩
      have e4 : (i : Int) < (l.length : Int) := by omega
      have w : IntKind.wrap .i64 ((i : Int) + 1) = ((i + 1 : Nat) : Int) := wrap_i64 (by omega) (by omega)
      have e5 : (0 < 16 ∧ (n + 1) * 16 ≤ 140737488355328) := ⟨by omega, by omega⟩
      rw [decide_eq_true e4, cond_true, if_pos e2, Int.toNat_natCast, getD_eq hx, w, if_pos rfl, if_pos e5, kB, drop_at hx, List.filter_cons]
      cases keepB x with
      | false =>
        rw [cond_false, if_neg (by decide)]
        exact L60_1_ok N hN h1 k l hm hl fuel (i + 1) v n r7 v7 r8 (by omega) (by omega) hn (by omega) hs
      | true =>
        rw [cond_true, if_pos rfl]
        have hs2 : Sm N ((r8.take n ++ [x]).take (n + 1)) := by
          rw [take_snoc hn]
          refine ⟨by rw [List.length_append, List.length_take]; simp; omega, (hs.snoc hx2).2⟩
        refine (L60_1_ok N hN h1 k l hm hl fuel (i + 1) (v + 1) (n + 1) r7 v7 (r8.take n ++ [x]) (by omega) (by omega) (by rw [List.length_append, List.length_take]; simp; omega) (by omega) hs2).trans ?_
        rw [take_snoc hn, List.append_assoc]
        rfl
    · have e4 : ¬ ((i : Int) < (l.length : Int)) := by omega
      rw [decide_eq_false e4, cond_false, h1 _ _ _ _ _ _ hn hs, List.drop_of_length_le (by omega)]
      simp

theorem L60_0_ok {ρ : Type} {K0 : Int → Option ρ} {K1 : Int → Nat → Nat → (List (List UInt8)) → Nat → (List (List UInt8)) → Nat → Option ρ} {G : List (List UInt8) → Option ρ} (N : Nat) (hN : N ≤ 100000000)
    (h0 : ∀ i, K0 i = G [])
    (h1 : ∀ i v n r7 v7 r8, n ≤ r8.length → Sm N (r8.take n) → K1 i v n r7 v7 r8 v = G (r8.take n)) (k : Nat) (l : List (List UInt8)) (hm : ∀ x ∈ l, x.length ≤ 255) (hl : l.length ≤ 100000000) (hlN : l.length ≤ N) :
    ∀ (fuel i : Nat), l.length < fuel + i → 0 < fuel →
      L6_0_0 K0 K1 k l (l.length : Int) fuel (i : Int) = G ((l.drop i).filter keepB)
  | 0, i, _, h => by omega
  | fuel + 1, i, h, _ => by
    rw [L6_0_0]
    unfold T6_0_0
    by_cases hp : i < l.length
    · have hx := List.getElem?_eq_getElem hp
      have hx2 := hm _ (List.getElem_mem hp)
      generalize l[i] = x at hx hx2
      have e2 : inR (i : Int) l.length := ⟨by omega, by omega⟩
      have e4 : (i : Int) < (l.length : Int) := by omega
      have w : IntKind.wrap .i64 ((i : Int) + 1) = ((i + 1 : Nat) : Int) := wrap_i64 (by omega) (by omega)
      rw [decide_eq_true e4, cond_true, if_pos e2, Int.toNat_natCast, getD_eq hx, w, kB, drop_at hx, List.filter_cons]
      cases keepB x with
      | false =>
        rw [cond_false, if_neg (by decide)]
        exact L60_0_ok N hN h0 h1 k l hm hl hlN fuel (i + 1) (by omega) (by omega)
      | true =>
        rw [cond_true, if_pos rfl]
        exact L60_1_ok N hN h1 k l hm hl fuel (i + 1) 0 1 [x] 0 [x] (by omega) (by omega) (by simp) (by omega) ⟨by simp; omega, by simpa using hx2⟩
    · have e4 : ¬ ((i : Int) < (l.length : Int)) := by omega
      rw [decide_eq_false e4, cond_false, h0, List.drop_of_length_le (by omega)]
      rfl

theorem L61_1_ok {ρ : Type} {K0 : Int → Int → Option ρ} {K1 : Int → Option ρ} {K2 : Int → Int → Nat → Nat → (List (List UInt8)) → Nat → (List (List UInt8)) → Nat → Option ρ} {K3 : Int → Nat → Nat → (List (List UInt8)) → Nat → (List (List UInt8)) → Nat → Option ρ} {E : Int → Option ρ} {G : List (List UInt8) → Option ρ} (N : Nat) (hN : N ≤ 100000000)
    (h2 : ∀ i e v n r7 v7 r8 v8, K2 i e v n r7 v7 r8 v8 = E e)
    (h3 : ∀ i v n r7 v7 r8, n ≤ r8.length → Sm N (r8.take n) → K3 i v n r7 v7 r8 v = G (r8.take n)) (k : Nat) (l : List (List UInt8)) (hm : ∀ x ∈ l, x.length ≤ 255) (hl : l.length ≤ 100000000) :
    ∀ (fuel i v n : Nat) (r7 : List (List UInt8)) (v7 : Nat) (r8 : List (List UInt8)), l.length < fuel + i → 0 < fuel → n ≤ r8.length → n + (l.length - i) ≤ N → Sm N (r8.take n) →
      L6_1_1 K0 K1 K2 K3 k l (l.length : Int) fuel (i : Int) v n r7 v7 r8 v = walkK E G (r8.take n) (l.drop i)
  | 0, i, v, n, r7, v7, r8, _, h, _, _, _ => by omega
  | fuel + 1, i, v, n, r7, v7, r8, h, _, hn, hb, hs => by
    rw [L6_1_1]
    unfold T6_1_1
    by_cases hp : i < l.length
    · have hx := List.getElem?_eq_getElem hp
      have hx2 := hm _ (List.getElem_mem hp)
      generalize l[i] = x at hx hx2
      have e2 : inR (i : Int) l.length := ⟨by omega, by omega⟩
      have e4 : (i : Int) < (l.length : Int) := by omega
      have w : IntKind.wrap .i64 ((i : Int) + 1) = ((i + 1 : Nat) : Int) := wrap_i64 (by omega) (by omega)
      have w2 : IntKind.wrap .i64 (((n - 1 : Nat) : Int)) = ((n - 1 : Nat) : Int) := wrap_i64 (by omega) (by omega)
      have e5 : (0 < 16 ∧ (n + 1) * 16 ≤ 140737488355328) := ⟨by omega, by omega⟩
      have e6 : (0 ≤ (0 : Int) ∧ (0 : Int) ≤ ((n - 1 : Nat) : Int) ∧ ((n - 1 : Nat) : Int) ≤ (n : Int)) := ⟨by omega, by omega, by omega⟩
      have e7 : cIsName.pre (x, ()) = true := by simp [cIsName]; omega
      rw [decide_eq_true e4, cond_true, if_pos e2, Int.toNat_natCast, getD_eq hx, w, max_sub, w2, if_pos rfl, if_pos rfl, if_pos rfl, if_pos e6, if_pos e5, Int.toNat_natCast, kB, gt31, e7, cond_true, drop_at hx]
      rw [walkK]
      cases keepB x with
      | false =>
        simp only [cond_false]
        exact L61_1_ok N hN h2 h3 k l hm hl fuel (i + 1) v n r7 v7 r8 (by omega) (by omega) hn (by omega) hs
      | true =>
        simp only [cond_true]
        cases (x == ([46, 46] : List UInt8)) with
        | true =>
          simp only [cond_true]
          rw [← take_dropLast hn]
          exact L61_1_ok N hN h2 h3 k l hm hl fuel (i + 1) v (n - 1) r7 v7 r8 (by omega) (by omega) (by omega) (by omega) (by rw [take_dropLast hn]; exact hs.dropLast)
        | false =>
          simp only [cond_false]
          cases decide (31 < x.length) with
          | true => exact h2 _ _ _ _ _ _ _ _
          | false =>
            simp only [cond_false]
            cases isNameS x with
            | false => exact h2 _ _ _ _ _ _ _ _
            | true =>
              have hs2 : Sm N ((r8.take n ++ [x]).take (n + 1)) := by
                rw [take_snoc hn]
                refine ⟨by rw [List.length_append, List.length_take]; simp; omega, (hs.snoc hx2).2⟩
              refine (L61_1_ok N hN h2 h3 k l hm hl fuel (i + 1) (v + 1) (n + 1) r7 v7 (r8.take n ++ [x]) (by omega) (by omega) (by rw [List.length_append, List.length_take]; simp; omega) (by omega) hs2).trans ?_
              rw [take_snoc hn]
              rfl
    · have e4 : ¬ ((i : Int) < (l.length : Int)) := by omega
      rw [decide_eq_false e4, cond_false, h3 _ _ _ _ _ _ hn hs, List.drop_of_length_le (by omega)]
      rfl

theorem L61_0_ok {ρ : Type} {K0 : Int → Int → Option ρ} {K1 : Int → Option ρ} {K2 : Int → Int → Nat → Nat → (List (List UInt8)) → Nat → (List (List UInt8)) → Nat → Option ρ} {K3 : Int → Nat → Nat → (List (List UInt8)) → Nat → (List (List UInt8)) → Nat → Option ρ} {E : Int → Option ρ} {G : List (List UInt8) → Option ρ} (N : Nat) (hN : N ≤ 100000000)
    (h0 : ∀ i e, K0 i e = E e) (h1 : ∀ i, K1 i = G [])
    (h2 : ∀ i e v n r7 v7 r8 v8, K2 i e v n r7 v7 r8 v8 = E e)
    (h3 : ∀ i v n r7 v7 r8, n ≤ r8.length → Sm N (r8.take n) → K3 i v n r7 v7 r8 v = G (r8.take n)) (k : Nat) (l : List (List UInt8)) (hm : ∀ x ∈ l, x.length ≤ 255) (hl : l.length ≤ 100000000) (hlN : l.length ≤ N) :
    ∀ (fuel i : Nat), l.length < fuel + i → 0 < fuel →
      L6_1_0 K0 K1 K2 K3 k l (l.length : Int) fuel (i : Int) = walkK E G [] (l.drop i)
  | 0, i, _, h => by omega
  | fuel + 1, i, h, _ => by
    rw [L6_1_0]
    unfold T6_1_0
    by_cases hp : i < l.length
    · have hx := List.getElem?_eq_getElem hp
      have hx2 := hm _ (List.getElem_mem hp)
      generalize l[i] = x at hx hx2
      have e2 : inR (i : Int) l.length := ⟨by omega, by omega⟩
      have e4 : (i : Int) < (l.length : Int) := by omega
      have w : IntKind.wrap .i64 ((i : Int) + 1) = ((i + 1 : Nat) : Int) := wrap_i64 (by omega) (by omega)
      have e7 : cIsName.pre (x, ()) = true := by simp [cIsName]; omega
      rw [decide_eq_true e4, cond_true, if_pos e2, Int.toNat_natCast, getD_eq hx, w, kB, gt31, e7, cond_true, drop_at hx]
      rw [walkK]
      cases keepB x with
      | false =>
        simp only [cond_false]
        exact L61_0_ok N hN h0 h1 h2 h3 k l hm hl hlN fuel (i + 1) (by omega) (by omega)
      | true =>
        simp only [cond_true]
        cases (x == ([46, 46] : List UInt8)) with
        | true =>
          simp only [cond_true]
          exact L61_0_ok N hN h0 h1 h2 h3 k l hm hl hlN fuel (i + 1) (by omega) (by omega)
        | false =>
          simp only [cond_false]
          cases decide (31 < x.length) with
          | true => exact h0 _ _
          | false =>
            simp only [cond_false]
            cases isNameS x with
            | false => exact h0 _ _
            | true => exact L61_1_ok N hN h2 h3 k l hm hl fuel (i + 1) 0 1 [x] 0 [x] (by omega) (by omega) (by simp) (by omega) ⟨by simp; omega, by simpa using hx2⟩
    · have e4 : ¬ ((i : Int) < (l.length : Int)) := by omega
      rw [decide_eq_false e4, cond_false, h1, List.drop_of_length_le (by omega)]
      rfl

theorem L63_1_ok {ρ : Type} {K0 : Int → Int → Option ρ} {K1 : Int → Option ρ} {K2 : Int → Int → Nat → Nat → (List (List UInt8)) → Nat → (List (List UInt8)) → Nat → Option ρ} {K3 : Int → Nat → Nat → (List (List UInt8)) → Nat → (List (List UInt8)) → Nat → Option ρ} {E : Int → Option ρ} {G : List (List UInt8) → Option ρ} (N : Nat) (hN : N ≤ 100000000)
    (h2 : ∀ i e v n r7 v7 r8 v8, K2 i e v n r7 v7 r8 v8 = E e)
    (h3 : ∀ i v n r7 v7 r8, n ≤ r8.length → Sm N (r8.take n) → K3 i v n r7 v7 r8 v = G (r8.take n)) (k : Nat) (l : List (List UInt8)) (hm : ∀ x ∈ l, x.length ≤ 255) (hl : l.length ≤ 100000000) :
    ∀ (fuel i v n : Nat) (r7 : List (List UInt8)) (v7 : Nat) (r8 : List (List UInt8)), l.length < fuel + i → 0 < fuel → n ≤ r8.length → n + (l.length - i) ≤ N → Sm N (r8.take n) →
      L6_3_1 K0 K1 K2 K3 k l (l.length : Int) fuel (i : Int) v n r7 v7 r8 v = walkK E G (r8.take n) (l.drop i)
  | 0, i, v, n, r7, v7, r8, _, h, _, _, _ => by omega
  | fuel + 1, i, v, n, r7, v7, r8, h, _, hn, hb, hs => by
    rw [L6_3_1]
    unfold T6_3_1
    by_cases hp : i < l.length
    · have hx := List.getElem?_eq_getElem hp
      have hx2 := hm _ (List.getElem_mem hp)
      generalize l[i] = x at hx hx2
      have e2 : inR (i : Int) l.length := ⟨by omega, by omega⟩
      have e4 : (i : Int) < (l.length : Int) := by omega
      have w : IntKind.wrap .i64 ((i : Int) + 1) = ((i + 1 : Nat) : Int) := wrap_i64 (by omega) (by omega)
      have w2 : IntKind.wrap .i64 (((n - 1 : Nat) : Int)) = ((n - 1 : Nat) : Int) := wrap_i64 (by omega) (by omega)
      have e5 : (0 < 16 ∧ (n + 1) * 16 ≤ 140737488355328) := ⟨by omega, by omega⟩
      have e6 : (0 ≤ (0 : Int) ∧ (0 : Int) ≤ ((n - 1 : Nat) : Int) ∧ ((n - 1 : Nat) : Int) ≤ (n : Int)) := ⟨by omega, by omega, by omega⟩
      have e7 : cIsName.pre (x, ()) = true := by simp [cIsName]; omega
      rw [decide_eq_true e4, cond_true, if_pos e2, Int.toNat_natCast, getD_eq hx, w, max_sub, w2, if_pos rfl, if_pos rfl, if_pos rfl, if_pos e6, if_pos e5, Int.toNat_natCast, kB, gt31, e7, cond_true, drop_at hx]
      rw [walkK]
      cases keepB x with
      | false =>
        simp only [cond_false]
        exact L63_1_ok N hN h2 h3 k l hm hl fuel (i + 1) v n r7 v7 r8 (by omega) (by omega) hn (by omega) hs
      | true =>
        simp only [cond_true]
        cases (x == ([46, 46] : List UInt8)) with
        | true =>
          simp only [cond_true]
          rw [← take_dropLast hn]
          exact L63_1_ok N hN h2 h3 k l hm hl fuel (i + 1) v (n - 1) r7 v7 r8 (by omega) (by omega) (by omega) (by omega) (by rw [take_dropLast hn]; exact hs.dropLast)
        | false =>
          simp only [cond_false]
          cases decide (31 < x.length) with
          | true => exact h2 _ _ _ _ _ _ _ _
          | false =>
            simp only [cond_false]
            cases isNameS x with
            | false => exact h2 _ _ _ _ _ _ _ _
            | true =>
              have hs2 : Sm N ((r8.take n ++ [x]).take (n + 1)) := by
                rw [take_snoc hn]
                refine ⟨by rw [List.length_append, List.length_take]; simp; omega, (hs.snoc hx2).2⟩
              refine (L63_1_ok N hN h2 h3 k l hm hl fuel (i + 1) (v + 1) (n + 1) r7 v7 (r8.take n ++ [x]) (by omega) (by omega) (by rw [List.length_append, List.length_take]; simp; omega) (by omega) hs2).trans ?_
              rw [take_snoc hn]
              rfl
    · have e4 : ¬ ((i : Int) < (l.length : Int)) := by omega
      rw [decide_eq_false e4, cond_false, h3 _ _ _ _ _ _ hn hs, List.drop_of_length_le (by omega)]
      rfl

theorem L63_0_ok {ρ : Type} {K0 : Int → Int → Option ρ} {K1 : Int → Option ρ} {K2 : Int → Int → Nat → Nat → (List (List UInt8)) → Nat → (List (List UInt8)) → Nat → Option ρ} {K3 : Int → Nat → Nat → (List (List UInt8)) → Nat → (List (List UInt8)) → Nat → Option ρ} {E : Int → Option ρ} {G : List (List UInt8) → Option ρ} (N : Nat) (hN : N ≤ 100000000)
    (h0 : ∀ i e, K0 i e = E e) (h1 : ∀ i, K1 i = G [])
    (h2 : ∀ i e v n r7 v7 r8 v8, K2 i e v n r7 v7 r8 v8 = E e)
    (h3 : ∀ i v n r7 v7 r8, n ≤ r8.length → Sm N (r8.take n) → K3 i v n r7 v7 r8 v = G (r8.take n)) (k : Nat) (l : List (List UInt8)) (hm : ∀ x ∈ l, x.length ≤ 255) (hl : l.length ≤ 100000000) (hlN : l.length ≤ N) :
    ∀ (fuel i : Nat), l.length < fuel + i → 0 < fuel →
      L6_3_0 K0 K1 K2 K3 k l (l.length : Int) fuel (i : Int) = walkK E G [] (l.drop i)
  | 0, i, _, h => by omega
  | fuel + 1, i, h, _ => by
    rw [L6_3_0]
    unfold T6_3_0
    by_cases hp : i < l.length
    · have hx := List.getElem?_eq_getElem hp
      have hx2 := hm _ (List.getElem_mem hp)
      generalize l[i] = x at hx hx2
      have e2 : inR (i : Int) l.length := ⟨by omega, by omega⟩
      have e4 : (i : Int) < (l.length : Int) := by omega
      have w : IntKind.wrap .i64 ((i : Int) + 1) = ((i + 1 : Nat) : Int) := wrap_i64 (by omega) (by omega)
      have e7 : cIsName.pre (x, ()) = true := by simp [cIsName]; omega
      rw [decide_eq_true e4, cond_true, if_pos e2, Int.toNat_natCast, getD_eq hx, w, kB, gt31, e7, cond_true, drop_at hx]
      rw [walkK]
      cases keepB x with
      | false =>
        simp only [cond_false]
        exact L63_0_ok N hN h0 h1 h2 h3 k l hm hl hlN fuel (i + 1) (by omega) (by omega)
      | true =>
        simp only [cond_true]
        cases (x == ([46, 46] : List UInt8)) with
        | true =>
          simp only [cond_true]
          exact L63_0_ok N hN h0 h1 h2 h3 k l hm hl hlN fuel (i + 1) (by omega) (by omega)
        | false =>
          simp only [cond_false]
          cases decide (31 < x.length) with
          | true => exact h0 _ _
          | false =>
            simp only [cond_false]
            cases isNameS x with
            | false => exact h0 _ _
            | true => exact L63_1_ok N hN h2 h3 k l hm hl fuel (i + 1) 0 1 [x] 0 [x] (by omega) (by omega) (by simp) (by omega) ⟨by simp; omega, by simpa using hx2⟩
    · have e4 : ¬ ((i : Int) < (l.length : Int)) := by omega
      rw [decide_eq_false e4, cond_false, h1, List.drop_of_length_le (by omega)]
      rfl

theorem L62_ok {ρ : Type} {K0 : Int → Int → Nat → Nat → (List (List UInt8)) → Nat → Option ρ} {K1 : Int → Nat → Nat → (List (List UInt8)) → Nat → Option ρ} {E : Int → Option ρ} {G : List (List UInt8) → Option ρ} (N : Nat) (hN : N ≤ 100000000)
    (h2 : ∀ i e v n r8 v8, K0 i e v n r8 v8 = E e)
    (h3 : ∀ i v n r8, n ≤ r8.length → Sm N (r8.take n) → K1 i v n r8 v = G (r8.take n)) (k : Nat) (l : List (List UInt8)) (hm : ∀ x ∈ l, x.length ≤ 255) (hl : l.length ≤ 100000000) :
    ∀ (fuel i v n : Nat) (r8 : List (List UInt8)), l.length < fuel + i → 0 < fuel → n ≤ r8.length → n + (l.length - i) ≤ N → Sm N (r8.take n) →
      L6_2_0 K0 K1 k l (l.length : Int) fuel (i : Int) v n r8 v = walkK E G (r8.take n) (l.drop i)
  | 0, i, v, n, r8, _, h, _, _, _ => by omega
  | fuel + 1, i, v, n, r8, h, _, hn, hb, hs => by
    rw [L6_2_0]
    unfold T6_2_0
    by_cases hp : i < l.length
    · have hx := List.getElem?_eq_getElem hp
      have hx2 := hm _ (List.getElem_mem hp)
      generalize l[i] = x at hx hx2
      have e2 : inR (i : Int) l.length := ⟨by omega, by omega⟩
      have e4 : (i : Int) < (l.length : Int) := by omega
      have w : IntKind.wrap .i64 ((i : Int) + 1) = ((i + 1 : Nat) : Int) := wrap_i64 (by omega) (by omega)
      have w2 : IntKind.wrap .i64 (((n - 1 : Nat) : Int)) = ((n - 1 : Nat) : Int) := wrap_i64 (by omega) (by omega)
      have e5 : (0 < 16 ∧ (n + 1) * 16 ≤ 140737488355328) := ⟨by omega, by omega⟩
      have e6 : (0 ≤ (0 : Int) ∧ (0 : Int) ≤ ((n - 1 : Nat) : Int) ∧ ((n - 1 : Nat) : Int) ≤ (n : Int)) := ⟨by omega, by omega, by omega⟩
      have e7 : cIsName.pre (x, ()) = true := by simp [cIsName]; omega
      rw [decide_eq_true e4, cond_true, if_pos e2, Int.toNat_natCast, getD_eq hx, w, max_sub, w2, if_pos rfl, if_pos rfl, if_pos rfl, if_pos e6, if_pos e5, Int.toNat_natCast, kB, gt31, e7, cond_true, drop_at hx]
      rw [walkK]
      cases keepB x with
      | false =>
        simp only [cond_false]
        exact L62_ok N hN h2 h3 k l hm hl fuel (i + 1) v n r8 (by omega) (by omega) hn (by omega) hs
      | true =>
        simp only [cond_true]
        cases (x == ([46, 46] : List UInt8)) with
        | true =>
          simp only [cond_true]
          rw [← take_dropLast hn]
          exact L62_ok N hN h2 h3 k l hm hl fuel (i + 1) v (n - 1) r8 (by omega) (by omega) (by omega) (by omega) (by rw [take_dropLast hn]; exact hs.dropLast)
        | false =>
          simp only [cond_false]
          cases decide (31 < x.length) with
          | true => exact h2 _ _ _ _ _ _
          | false =>
            simp only [cond_false]
            cases isNameS x with
            | false => exact h2 _ _ _ _ _ _
            | true =>
              have hs2 : Sm N ((r8.take n ++ [x]).take (n + 1)) := by
                rw [take_snoc hn]
                refine ⟨by rw [List.length_append, List.length_take]; simp; omega, (hs.snoc hx2).2⟩
              refine (L62_ok N hN h2 h3 k l hm hl fuel (i + 1) (v + 1) (n + 1) (r8.take n ++ [x]) (by omega) (by omega) (by rw [List.length_append, List.length_take]; simp; omega) (by omega) hs2).trans ?_
              rw [take_snoc hn]
              rfl
    · have e4 : ¬ ((i : Int) < (l.length : Int)) := by omega
      rw [decide_eq_false e4, cond_false, h3 _ _ _ _ hn hs, List.drop_of_length_le (by omega)]
      rfl
end Go.Proofs.YtholnbknimfbhaaDoor

set_option linter.unusedVariables false
set_option linter.unusedSimpArgs false
open Go.Proofs
namespace Go.Proofs.YtholnbknimfbhaaDoor
open Go Go.Fy Go.RowKit

def finS (acc : List (List UInt8)) : List UInt8 × Int := bif decide (255 < (47 :: joinS acc).length) then ([], 36) else (47 :: joinS acc, 0)
def baseS (cwd p : List UInt8) : List (List UInt8) := bif p.head? == some 47 then [] else bif isPathS cwd then (spl 47 cwd).filter keepB else []
def normS (cwd p : List UInt8) : List UInt8 × Int := bif p == [] then ([], 2) else bif decide (255 < p.length) then ([], 36) else walkK (fun e => ([], e)) finS (baseS cwd p) (spl 47 p)
/-- A pair as two results. -/
def two (x : List UInt8 × Int) : Option (DenL [.str, .int .i64]) := some (x.1, x.2, ())

theorem walkK_map {α β : Type} (f : α → β) (E : Int → α) (G : List (List UInt8) → α) : ∀ (l acc : List (List UInt8)), walkK (fun e => f (E e)) (fun a => f (G a)) acc l = f (walkK E G acc l)
  | [], acc => rfl
  | x :: l, acc => by
    rw [walkK, walkK, walkK_map f E G l, walkK_map f E G l, walkK_map f E G l]
    cases keepB x <;> cases (x == [46, 46]) <;> cases decide (31 < x.length) <;> cases isNameS x <;> rfl

theorem joinTail_len (N : Nat) : ∀ (r : List (List UInt8)), r.length ≤ N → (∀ x ∈ r, x.length ≤ 255) → (Lib.joinTail [47] r).length ≤ r.length * 256
  | [], _, _ => by simp [Lib.joinTail]
  | x :: r, h, hx => by
    have ih := joinTail_len N r (by simp at h; omega) (fun y hy => hx y (by simp [hy]))
    have h1 := hx x (by simp)
    have : Lib.joinTail [47] (x :: r) = ([47] ++ x) ++ Lib.joinTail [47] r := by simp [Lib.joinTail]
    rw [this, List.length_append, List.length_append]
    simp only [List.length_cons, List.length_nil]
    omega
theorem joinS_len {N : Nat} {acc : List (List UInt8)} (h : Sm N acc) : (joinS acc).length ≤ N * 256 := by
  have e : joinS acc = Lib.join acc [47] := rfl
  rw [e]
  cases acc with
  | nil => simp [Lib.join_nil]
  | cons x r =>
    rw [Lib.join_cons, List.length_append]
    have := joinTail_len N r (by have := h.1; simp at this; omega) (fun y hy => h.2 y (by simp [hy]))
    have h1 := h.2 x (by simp)
    have h2 := h.1
    simp only [List.length_cons] at h2
    omega

theorem endK {acc : List (List UInt8)} (h : Sm 1000 acc) :
    (bif (cJoin.pre (acc, ([47] : List UInt8), ())) then (
      if (((([47] : List UInt8)).length + ((joinS acc)).length : Nat) : Int) ≤ 9223372036854775807 then (
        bif (decide ((((([47] : List UInt8) ++ (joinS acc))).length : Int) > (255 : Int))) then (
          some (([] : List UInt8), (36 : Int), ()))
        else (
          some ((([47] : List UInt8) ++ (joinS acc)), (0 : Int), ()))) else none) else none : Option (DenL [.str, .int .i64])) = two (finS acc) := by
  have hl := joinS_len h
  have hn := h.1
  have e1 : cJoin.pre (acc, ([47] : List UInt8), ()) = true := by
    have h1 : acc.length ≤ 100000000 := by omega
    have h2 : (joinS acc).length ≤ 140737488355328 := by omega
    simp [cJoin, h1, h2]
  have e2 : ((([47] : List UInt8).length + (joinS acc).length : Nat) : Int) ≤ 9223372036854775807 := by
    simp only [List.length_cons, List.length_nil]; omega
  rw [e1, cond_true, if_pos e2]
  unfold finS two
  have e3 : decide (((([47] : List UInt8) ++ (joinS acc)).length : Int) > (255 : Int)) = decide (255 < (47 :: joinS acc).length) := decide_eq_decide.2 (by simp only [List.length_append, List.length_cons, List.length_nil]; omega)
  rw [e3]
  cases decide (255 < (47 :: joinS acc).length) <;> rfl

theorem spl_small {p : List UInt8} (h : p.length ≤ 255) : ∀ x ∈ spl 47 p, x.length ≤ 255 := fun x hx => by have := spl_mem 47 p x hx; omega
theorem spl_few {p : List UInt8} (h : p.length ≤ 255) : (spl 47 p).length ≤ 256 := by
  rw [spl_len]
  have : p.count 47 ≤ p.length := List.count_le_length
  omega
theorem split_pre {p : List UInt8} (h : p.length ≤ 255) : cSplit.pre (p, ([47] : List UInt8), ()) = true := by
  have : p.length < 100000000 := by omega
  simp [cSplit, this]
theorem path_len {s : List UInt8} (h : isPathS s = true) : s.length ≤ 255 := by
  unfold isPathS at h
  simp only [Bool.or_eq_true, Bool.and_eq_true, decide_eq_true_eq, beq_iff_eq] at h
  rcases h with h | h
  · rw [h]; decide
  · exact h.2.1

theorem fn6_ok (k : Nat) (x0 x1 : List UInt8) (hk : 1000 ≤ k) (h0 : x0.length < 100000000) : fn6 k x0 x1 = two (normS x0 x1) := by
  unfold fn6 normS
  cases x1 with
  | nil => rfl
  | cons b x1 =>
    have e1 : (b :: x1 == ([] : List UInt8)) = false := rfl
    have e2 : decide (((b :: x1).length : Int) > (255 : Int)) = decide (255 < (b :: x1).length) := decide_eq_decide.2 (by omega)
    have e3 : inR (0 : Int) (b :: x1).length := ⟨by omega, by simp⟩
    have e4 : byteAt (b :: x1) 0 = (b.toNat : Int) := by simp [byteAt]
    have e5 : ((b.toNat : Int) != (47 : Int)) = !((b :: x1).head? == some 47) := by
      rw [bne, byte47]; rfl
    rw [e1, cond_false, cond_false, e2, if_pos e3, e4, e5]
    by_cases hl : 255 < (b :: x1).length
    · rw [decide_eq_true hl]; rfl
    · rw [decide_eq_false hl, cond_false, cond_false]
      have hl2 : (b :: x1).length ≤ 255 := by omega
      have e6 := split_pre hl2
      have e7 : cIsPath.pre (x0, ()) = true := by simp [cIsPath, h0]
      have hf := spl_few hl2
      rw [e6, e7, ← walkK_map two]
      generalize hp : (b :: x1) = p at *
      unfold baseS
      cases (p.head? == some 47) with
      | true =>
        simp only [Bool.not_true, cond_false, cond_true]
        exact L63_0_ok (E := fun e => two ([], e)) (G := fun a => two (finS a)) 1000 (by omega) (fun _ _ => rfl) (fun _ => endK ⟨by simp, by simp⟩) (fun _ _ _ _ _ _ _ _ => rfl) (fun _ _ _ _ _ _ _ hs => (if_pos rfl).trans (endK hs)) k _ (spl_small hl2) (by omega) (by omega) k 0 (by omega) (by omega)
      | false =>
        simp only [Bool.not_false, cond_true, cond_false]
        cases hc : isPathS x0 with
        | false =>
          simp only [cond_false]
          exact L63_0_ok (E := fun e => two ([], e)) (G := fun a => two (finS a)) 1000 (by omega) (fun _ _ => rfl) (fun _ => endK ⟨by simp, by simp⟩) (fun _ _ _ _ _ _ _ _ => rfl) (fun _ _ _ _ _ _ _ hs => (if_pos rfl).trans (endK hs)) k _ (spl_small hl2) (by omega) (by omega) k 0 (by omega) (by omega)
        | true =>
          have hx0 := path_len hc
          have hf0 := spl_few hx0
          rw [split_pre hx0]
          simp only [cond_true]
          exact L60_0_ok (G := fun a => walkK (fun e => two ([], e)) (fun a => two (finS a)) a (spl 47 p)) 300 (by omega)
            (fun _ => L61_0_ok (E := fun e => two ([], e)) (G := fun a => two (finS a)) 1000 (by omega) (fun _ _ => rfl) (fun _ => endK ⟨by simp, by simp⟩) (fun _ _ _ _ _ _ _ _ => rfl) (fun _ _ _ _ _ _ _ hs => (if_pos rfl).trans (endK hs)) k _ (spl_small hl2) (by omega) (by omega) k 0 (by omega) (by omega))
            (fun _ v n r7 v7 r8 hn hs => L62_ok (E := fun e => two ([], e)) (G := fun a => two (finS a)) 1000 (by omega) (fun _ _ _ _ _ _ => rfl) (fun _ _ _ _ _ hs => (if_pos rfl).trans (endK hs)) k _ (spl_small hl2) (by omega) k 0 v n r8 (by omega) (by omega) hn (by have := hs.1; rw [List.length_take] at this; omega) (hs.mono (by omega)))
            k _ (spl_small hx0) (by omega) (by omega) k 0 (by omega) (by omega)

noncomputable def cNorm : CP := { args := [.str, .str], res := [.str, .int .i64], pre := fun xs => decide (xs.1.length < 100000000), spec := fun xs => ((normS xs.1 xs.2.1).1, (normS xs.1 xs.2.1).2, ()) }
theorem normOk : CpOk Tryd.prog gl 6 cNorm := con6 (k := 100000000) (by
    unfold cp6s
    simp only [List.forall_mem_cons]
    exact ⟨isPathOk, isNameOk, joinOk, splitOk, fun _ h => by cases h⟩) (fun xs h => by
    simp only [decide_eq_true_eq] at h
    exact fn6_ok _ _ _ (by omega) h)
end Go.Proofs.YtholnbknimfbhaaDoor

