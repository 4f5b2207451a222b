/-
  The law's function hands back true, whatever it is handed; no conditions.
-/
import Derived.Test.YtholnbknimfbhaaDoorYe
import Derived.Test.YtholnbknimfbhaaDoorYc
import Derived.Test.YtholnbknimfbhaaDoorYd
set_option linter.unusedVariables false
set_option maxRecDepth 100000
set_option maxHeartbeats 0
open Go.Proofs
namespace Go.Proofs.YtholnbknimfbhaaDoor
open Go Go.Fy Go.RowKit

noncomputable def P27 : SP := { ts := [(.pt 2 0), (.hole Y35), .un, (.pt 3 0), (.hole (.int .i64)), (.hole .bool), (.tu [(.hole (.int .i64)), (.hole .bool)]), (.pt 2 0), (.pt 3 0), (.hole .str), (.tu [(.hole (.int .i64)), (.hole .bool)]), (.hole (.int .i64)), (.hole .bool), .un, .un, .un, .un, .un, .un, .un, .un, .un, .un, .un, .un, .un, .un], h := [(.cells [(.hole (.sl Y35)), (.hole (.int .i64))]), (.cells [.nsl, (.hole (.int .i64))]), (.cells [(.hole (.sl Y35)), (.hole (.int .i64))]), (.cells [(.hole .str), (.hole .bool), (.hole .str), (.hole (.int .i64))])], df := [] }
noncomputable def hs27 : List HT := [.d Y35, .d (.int .i64), .d .bool, .d (.int .i64), .d .bool, .d .str, .d (.int .i64), .d .bool, .d (.int .i64), .d .bool, .d (.sl Y35), .d (.int .i64), .d (.int .i64), .d (.sl Y35), .d (.int .i64), .d .str, .d .bool, .d .str, .d (.int .i64)]
noncomputable def ops27 : Array Oper := (regOps 2 (bd Tryd.f27)).getD #[]
/-- The state: a node, where it goes, and the tree. -/
noncomputable def v27 (x : Y35.den) (i : Int) (l : List Y35.den) (n : Int) (l2 : List Y35.den) : DenH hs27 :=
  (x, i, false, i, false, x.1, i, false, i, false, l, n, (0 : Int), l2, n, x.1, x.2.1, x.2.2.1, x.2.2.2.1, ())
def nd0 : Y35.den := ([47], true, [], 0, ())
def nd1 : Y35.den := ([47, 97], true, [], 1, ())
def nd2 : Y35.den := ([47, 97, 47, 98], false, [], 2, ())
noncomputable def re27 : RE := { f := 27, id := 2, ops := ops27, pat := P27, hs := hs27, run := fun v => bif heq hs27 v (v27 nd1 1 [nd0] 1 [nd0]) then (some (v27 nd1 1 [nd0] 1 [nd0, nd1], [2])) else (bif heq hs27 v (v27 nd2 2 [nd0, nd1] 2 [nd0, nd1]) then (some (v27 nd2 2 [nd0, nd1] 2 [nd0, nd1, nd2], [2])) else none) }
noncomputable def E27 : Env := (mkT [] []).env (mkE tys gl fns [] [] [])
noncomputable def at27 (v : DenH hs27) (e : List Nat) : Option (List PV × List Blk) :=
  evOps E27 (orcN (ρ := List PV × List Blk) E27 400 3) ops27.toList (opsAt ops27 e) (fillH P27 hs27 v).ts (fillH P27 hs27 v).h [] (fun ts' h' _ => some (canon (some [0, 1, 2, 3, 4, 5, 6, 7, 8, 9, 10, 11, 12]) (fillH P27 hs27 v).h.length [(2, 0)] ts' h')) nKV
theorem back27 : backOk ops27 = true := by kernel_rfl
theorem e27 : (exts E27 ops27 ops27.size []).length = 15 := by kernel_rfl
theorem ev27_1 : (exts E27 ops27 ops27.size []).map (at27 (v27 nd1 1 [nd0] 1 [nd0])) = List.replicate (exts E27 ops27 ops27.size []).length (some ((fillH P27 hs27 (v27 nd1 1 [nd0] 1 [nd0, nd1])).ts, (fillH P27 hs27 (v27 nd1 1 [nd0] 1 [nd0, nd1])).h)) := by kernel_rfl
theorem ev27_2 : (exts E27 ops27 ops27.size []).map (at27 (v27 nd2 2 [nd0, nd1] 2 [nd0, nd1])) = List.replicate (exts E27 ops27 ops27.size []).length (some ((fillH P27 hs27 (v27 nd2 2 [nd0, nd1] 2 [nd0, nd1, nd2])).ts, (fillH P27 hs27 (v27 nd2 2 [nd0, nd1] 2 [nd0, nd1, nd2])).h)) := by kernel_rfl
end Go.Proofs.YtholnbknimfbhaaDoor

set_option linter.unusedVariables false
set_option maxRecDepth 100000
set_option maxHeartbeats 0
open Go.Proofs
namespace Go.Proofs.YtholnbknimfbhaaDoor
open Go Go.Fy Go.RowKit

theorem EOk27 : EnvOk Tryd.prog E27 := envOk_of (lps := []) (cps := []) (drl := []) (kpl := []) seatOk (fun _ h => by cases h)
theorem re27Ok : re27.Ok Tryd.prog gl := by
  intro id v q hq
  have hC : CodeOk E27 := codeOk_of (tys := tys) (gl := gl) (fns := fns) (drl := []) (kpl := []) (cps := []) (re := fun _ _ _ _ _ => none) (fun p h => by cases h)
  have hok : (∀ ops, E27.ok ops = true → regOk E27 ops = true) ∧ ReOk Tryd.prog E27 := ⟨fun ops h => (congrFun (regOk_con (E := E27) (E' := conE []) rfl) ops).trans h, fun _ _ _ _ _ _ h => by cases h⟩
  have hq : (bif heq hs27 v (v27 nd1 1 [nd0] 1 [nd0]) then (some (v27 nd1 1 [nd0] 1 [nd0, nd1], [2])) else (bif heq hs27 v (v27 nd2 2 [nd0, nd1] 2 [nd0, nd1]) then (some (v27 nd2 2 [nd0, nd1] 2 [nd0, nd1, nd2], [2])) else none)) = some q := hq
  cases h1 : heq hs27 v (v27 nd1 1 [nd0] 1 [nd0]) with
  | true =>
    rw [h1] at hq
    injection hq with hq
    subst hq
    have hv := heq_ok _ _ _ h1
    subst hv
    exact (reg_sem (E := E27) EOk27 hC hok 400 3 (kl := some [0, 1, 2, 3, 4, 5, 6, 7, 8, 9, 10, 11, 12]) (sl := [(2, 0)]) (ts := (fillH P27 hs27 (v27 nd1 1 [nd0] 1 [nd0])).ts) (h := (fillH P27 hs27 (v27 nd1 1 [nd0] 1 [nd0])).h) (out := ((fillH P27 hs27 (v27 nd1 1 [nd0] 1 [nd0, nd1])).ts, (fillH P27 hs27 (v27 nd1 1 [nd0] 1 [nd0, nd1])).h, [2])) back27 (fun e he => map_replicate ev27_1 e he)).env rfl
  | false =>
    rw [h1, cond_false] at hq
    cases h2 : heq hs27 v (v27 nd2 2 [nd0, nd1] 2 [nd0, nd1]) with
    | true =>
      rw [h2] at hq
      injection hq with hq
      subst hq
      have hv := heq_ok _ _ _ h2
      subst hv
      exact (reg_sem (E := E27) EOk27 hC hok 400 3 (kl := some [0, 1, 2, 3, 4, 5, 6, 7, 8, 9, 10, 11, 12]) (sl := [(2, 0)]) (ts := (fillH P27 hs27 (v27 nd2 2 [nd0, nd1] 2 [nd0, nd1])).ts) (h := (fillH P27 hs27 (v27 nd2 2 [nd0, nd1] 2 [nd0, nd1])).h) (out := ((fillH P27 hs27 (v27 nd2 2 [nd0, nd1] 2 [nd0, nd1, nd2])).ts, (fillH P27 hs27 (v27 nd2 2 [nd0, nd1] 2 [nd0, nd1, nd2])).h, [2])) back27 (fun e he => map_replicate ev27_2 e he)).env rfl
    | false => rw [h2] at hq; cases hq

noncomputable def cpA : List (Nat × CP) := [(6, cNorm), (15, cIsPath), (18, cIsName), (7, cPathR), (19, cJoin), (32, cSplit), (90, cIndexByte), (78, cCount)]
noncomputable def drA : List (Nat × List Nat) := [(23, [2])]
theorem cpA_ok : ∀ p ∈ cpA, CpOk Tryd.prog gl p.1 p.2 := by
  unfold cpA
  simp only [List.forall_mem_cons]
  exact ⟨normOk, isPathOk, isNameOk, pathROk, joinOk, splitOk, indexByteOk, countOk, fun _ h => by cases h⟩
def tr0 : Y29.den := ([nd0], 1, ())
def tr1 : Y29.den := ([nd0, nd1], 2, ())
def tr2 : Y29.den := ([nd0, nd1, nd2], 3, ())
def mk0 : DenL [Y29, .str, .bool] := (tr0, [47, 97], true, ())
def mk1 : DenL [Y29, .str, .bool] := (tr1, [47, 97, 47, 98], false, ())
noncomputable def cMakeA : CP := { args := [Y29, .str, .bool], res := [Y29, .int .i64], pre := fun xs => leq [Y29, .str, .bool] xs mk0 || leq [Y29, .str, .bool] xs mk1, spec := fun xs => bif leq [Y29, .str, .bool] xs mk0 then (tr1, 0, ()) else (tr2, 0, ()) }
theorem make_ev0 : (orcL (mkT [] cpA) (mkE tys gl fns drA [] cpA (reTab [re27])) 400 12).call 12 (ofRes [Y29, .str, .bool] mk0) [] (KD [Y29, .int .i64]) = some (tr1, 0, ()) := by kernel_rfl
theorem make_ev1 : (orcL (mkT [] cpA) (mkE tys gl fns drA [] cpA (reTab [re27])) 400 12).call 12 (ofRes [Y29, .str, .bool] mk1) [] (KD [Y29, .int .i64]) = some (tr2, 0, ()) := by kernel_rfl
theorem dr23Ok : ∀ p ∈ drA, ∀ fn b, fns p.1 = some fn → fn.body = some b → drOk (fun ops => regOk (conE cpA) ops) (fun i => p.2.any (Nat.beq i)) b = true := by
  unfold drA
  simp only [List.forall_mem_cons]
  exact ⟨fun fn b h1 h2 => by cases h1; cases h2; kernel_rfl, fun _ h => by cases h⟩
theorem makeAOk : CpOk Tryd.prog gl 12 cMakeA :=
  con_of (lps := []) (drl := drA) (kpl := []) (k := 400) (re := reTab [re27]) seatOk cpA_ok (fun p h => by cases h) dr23Ok (by kernel_rfl) 12 (fun xs hx => by
    simp only [Bool.or_eq_true] at hx
    cases h : leq [Y29, .str, .bool] xs mk0 with
    | true =>
      have := leq_ok _ _ _ h
      subst this
      exact make_ev0
    | false =>
      rw [h] at hx
      have := leq_ok _ _ _ (hx.resolve_left (by simp))
      subst this
      exact make_ev1) (reOk_tab (by simp only [List.forall_mem_cons]; exact ⟨re27Ok, fun _ h => by cases h⟩))

noncomputable def cNew : CP := { args := [], res := [Y29], pre := fun _ => true, spec := fun _ => (tr0, ()) }
theorem new_ev : (orcL (mkT [] []) (mkE tys gl fns [] [] []) 10 2).call 13 [] [] (KD [Y29]) = some (tr0, ()) := by kernel_rfl
theorem newOk : CpOk Tryd.prog gl 13 cNew :=
  con_of (lps := []) (drl := []) (kpl := []) (k := 10) (cps := []) seatOk (fun p h => by cases h) (fun p h => by cases h) (fun p h => by cases h) (by kernel_rfl) 2 (fun xs hx => new_ev)
noncomputable def cpB : List (Nat × CP) := (12, cMakeA) :: (13, cNew) :: cpA
theorem cpB_ok : ∀ p ∈ cpB, CpOk Tryd.prog gl p.1 p.2 := by
  unfold cpB
  simp only [List.forall_mem_cons]
  exact ⟨makeAOk, newOk, cpA_ok⟩
theorem awake_ev : (orcL (mkT [] cpB) (mkE tys gl fns drA [] cpB) 400 12).call 5 [] [] (KD [.bool]) = some (true, ()) := by kernel_rfl
noncomputable def cAwake : CP := { args := [], res := [.bool], pre := fun _ => true, spec := fun _ => (true, ()) }
theorem awakeOk : CpOk Tryd.prog gl 5 cAwake :=
  con_of (lps := []) (drl := drA) (kpl := []) (k := 400) seatOk cpB_ok (fun p h => by cases h) (by
    unfold drA
    simp only [List.forall_mem_cons]
    exact ⟨fun fn b h1 h2 => by cases h1; cases h2; kernel_rfl, fun _ h => by cases h⟩) (by kernel_rfl) 12 (fun xs hx => awake_ev)
end Go.Proofs.YtholnbknimfbhaaDoor

set_option linter.unusedVariables false
set_option linter.unusedSimpArgs false
set_option maxRecDepth 100000
open Go.Proofs
namespace Go.Proofs.YtholnbknimfbhaaDoor
open Go Go.Fy Go.RowKit

noncomputable def lp3 : List (Nat × Nat × LE) := []
noncomputable def cp3s : List (Nat × CP) := [(5, cAwake), (6, cNorm), (7, cPathR)]
noncomputable def dr3 : List (Nat × List Nat) := []
noncomputable def tb3 : Tb := mkT lp3 cp3s
noncomputable def e3 : Env := mkE tys gl fns dr3 [] cp3s
noncomputable def fn3 (k : Nat) (x0 : List UInt8) (x1 : List UInt8) : Option (DenL [.bool]) :=
  bif (decide (((x0).length : Int) > (600 : Int))) then (
    some (true, ()))
  else (
    bif (decide (((x1).length : Int) > (600 : Int))) then (
      some (true, ()))
    else (
      bif (cNorm.pre (x0, x1, ())) then (
        bif ((normS x0 x1).2 != (0 : Int)) then (
          bif ((normS x0 x1).1 == ([] : List UInt8)) then (
            some (true, ()))
          else (
            some (false, ())))
        else (
          bif (cNorm.pre (x0, (normS x0 x1).1, ())) then (
            bif (cNorm.pre ((normS x0 x1).1, ([46] : List UInt8), ())) then (
              bif (cNorm.pre ((normS x0 x1).1, ([46, 46] : List UInt8), ())) then (
                bif (cPathR.pre ((normS x0 x1).1, ())) then (
                  bif (!(isPathS (normS x0 x1).1)) then (
                    some (false, ()))
                  else (
                    bif ((normS x0 (normS x0 x1).1).2 != (0 : Int)) then (
                      some (false, ()))
                    else (
                      bif (!((normS x0 (normS x0 x1).1).1 == (normS x0 x1).1)) then (
                        some (false, ()))
                      else (
                        bif ((normS (normS x0 x1).1 ([46] : List UInt8)).2 != (0 : Int)) then (
                          some (false, ()))
                        else (
                          bif (!((normS (normS x0 x1).1 ([46] : List UInt8)).1 == (normS x0 x1).1)) then (
                            some (false, ()))
                          else (
                            bif ((normS (normS x0 x1).1 ([46, 46] : List UInt8)).2 != (0 : Int)) then (
                              some (false, ()))
                            else (
                              bif (decide ((((normS (normS x0 x1).1 ([46, 46] : List UInt8)).1).length : Int) > (((normS x0 x1).1).length : Int))) then (
                                some (false, ()))
                              else (
                                bif (((normS x0 x1).1 == ([47] : List UInt8)) == ((normS (normS x0 x1).1 ([46, 46] : List UInt8)).1 == (normS x0 x1).1)) then (
                                  if (0 ≤ (0 : Int) ∧ (0 : Int) ≤ (((normS (normS x0 x1).1 ([46, 46] : List UInt8)).1).length : Int) ∧ (((normS (normS x0 x1).1 ([46, 46] : List UInt8)).1).length : Int) ≤ (((normS x0 x1).1).length : Int)) then (
                                    bif ((cutL (normS x0 x1).1 0 ((normS (normS x0 x1).1 ([46, 46] : List UInt8)).1).length) == (normS (normS x0 x1).1 ([46, 46] : List UInt8)).1) then (
                                      some (true, ()))
                                    else (
                                      some (false, ()))) else none)
                                else (
                                  some (false, ())))))))))) else none) else none) else none) else none)) else none))
theorem ev3 (k : Nat) (x0 : List UInt8) (x1 : List UInt8) : (orcL tb3 e3 k 2).call 3 (ofRes [.str, .str] (x0, x1, ())) [] (KD [.bool]) = fn3 k x0 x1 := by kernel_rfl
theorem con3 {k : Nat} {pre : DenL [.str, .str] → Bool} {spec : DenL [.str, .str] → DenL [.bool]} (hC : ∀ p ∈ cp3s, CpOk Tryd.prog gl p.1 p.2) (hp : ∀ xs, pre xs = true → fn3 k xs.1 xs.2.1 = some (spec xs)) : CpOk Tryd.prog gl 3 { args := [.str, .str], res := [.bool], pre, spec } :=
  con_of (lps := lp3) (drl := dr3) (kpl := []) (k := k) seatOk hC (fun p h => by cases h) (fun p h => by cases h) (by kernel_rfl) 2 (fun xs hx => (ev3 k xs.1 xs.2.1).trans (hp xs hx))
end Go.Proofs.YtholnbknimfbhaaDoor

set_option linter.unusedVariables false
set_option linter.unusedSimpArgs false
open Go.Proofs
namespace Go.Proofs.YtholnbknimfbhaaDoor
open Go Go.Fy Go.RowKit

def names (acc : List (List UInt8)) : Prop := ∀ x ∈ acc, isNameS x = true

theorem name_parts {x : List UInt8} (h : isNameS x = true) : x ≠ [] ∧ x.length ≤ 31 ∧ x ≠ [46] ∧ x ≠ [46, 46] ∧ (47 : UInt8) ∉ x := by
  unfold isNameS at h
  simp only [Bool.and_eq_true, Bool.not_eq_true', decide_eq_true_eq, beq_eq_false_iff_ne] at h
  obtain ⟨h1, h2, h3, h4, h5⟩ := h
  refine ⟨h1, h2, h3, h4, fun hm => ?_⟩
  have : x.any badB = true := List.any_eq_true.2 ⟨47, hm, by decide⟩
  rw [this] at h5
  cases h5
theorem name_keep {x : List UInt8} (h : isNameS x = true) : keepB x = true := by
  obtain ⟨h1, _, h3, _⟩ := name_parts h
  simp [keepB, h1, h3]

theorem joinS_one (x : List UInt8) : joinS [x] = x := by simp [joinS, List.intercalate]
theorem joinS_cons (x y : List UInt8) (r : List (List UInt8)) : joinS (x :: y :: r) = x ++ 47 :: joinS (y :: r) := by simp [joinS, List.intercalate]
theorem joinS_snoc : ∀ (l : List (List UInt8)) (x : List UInt8), l ≠ [] → joinS (l ++ [x]) = joinS l ++ 47 :: x
  | [], _, h => absurd rfl h
  | [y], x, _ => by rw [List.singleton_append, joinS_cons, joinS_one, joinS_one]
  | y :: z :: r, x, _ => by
    have := joinS_snoc (z :: r) x (by simp)
    rw [List.cons_append, List.cons_append, joinS_cons, joinS_cons, ← List.cons_append, this]
    simp
theorem spl_join : ∀ (acc : List (List UInt8)), acc ≠ [] → names acc → spl 47 (joinS acc) = acc
  | [], h, _ => absurd rfl h
  | [x], _, h => by rw [joinS_one, spl_no (name_parts (h x (by simp))).2.2.2.2]
  | x :: y :: r, _, h => by
    rw [joinS_cons, spl_at _ (name_parts (h x (by simp))).2.2.2.2, spl_join (y :: r) (by simp) (fun z hz => h z (by simp [hz]))]

theorem names_drop {acc : List (List UInt8)} (h : names acc) : names acc.dropLast := fun x hx => h x ((List.dropLast_sublist acc).subset hx)
theorem names_snoc {acc : List (List UInt8)} {x : List UInt8} (h : names acc) (hx : isNameS x = true) : names (acc ++ [x]) := fun y hy => by
  rcases List.mem_append.1 hy with hy | hy
  · exact h y hy
  · rw [List.mem_singleton.1 hy]; exact hx

/-- What walkK comes to: a fault, or the end at names alone. -/
theorem walkK_cases {β : Type} (E : Int → β) (G : List (List UInt8) → β) : ∀ (l acc : List (List UInt8)), names acc → (∃ e, e ≠ 0 ∧ walkK E G acc l = E e) ∨ ∃ a, names a ∧ walkK E G acc l = G a
  | [], acc, h => .inr ⟨acc, h, rfl⟩
  | x :: l, acc, h => by
    rw [walkK]
    cases keepB x with
    | false => exact walkK_cases E G l acc h
    | true =>
      simp only [cond_true]
      cases (x == [46, 46]) with
      | true => exact walkK_cases E G l _ (names_drop h)
      | false =>
        simp only [cond_false]
        cases decide (31 < x.length) with
        | true => exact .inl ⟨36, by decide, rfl⟩
        | false =>
          simp only [cond_false]
          cases hx : isNameS x with
          | true => exact walkK_cases E G l _ (names_snoc h hx)
          | false => exact .inl ⟨22, by decide, rfl⟩
theorem walkK_names {β : Type} (E : Int → β) (G : List (List UInt8) → β) : ∀ (l acc : List (List UInt8)), names l → walkK E G acc l = G (acc ++ l)
  | [], acc, _ => by rw [List.append_nil]; rfl
  | x :: l, acc, h => by
    have hx := h x (by simp)
    obtain ⟨h1, h2, h3, h4, h5⟩ := name_parts hx
    rw [walkK, name_keep hx, hx, cond_true, beq_eq_false_iff_ne.2 h4, cond_false, decide_eq_false (by omega), cond_false, cond_true, walkK_names E G l _ (fun y hy => h y (by simp [hy])), List.append_assoc]
    rfl

theorem filter_names {l : List (List UInt8)} (h : names l) : l.filter keepB = l := List.filter_eq_self.2 fun x hx => name_keep (h x hx)
theorem spl_head (r : List UInt8) : spl 47 (47 :: r) = [] :: spl 47 r := by simp [spl]

/-- The parts of a written path. -/
theorem path_parts {s : List UInt8} (h : isPathS s = true) : names ((spl 47 s).filter keepB) := by
  unfold isPathS at h
  simp only [Bool.or_eq_true, Bool.and_eq_true, beq_iff_eq] at h
  rcases h with h | ⟨h1, h2, h3⟩
  · subst h
    intro x hx
    exact absurd hx (by simp [spl, keepB])
  · cases s with
    | nil => cases h1
    | cons b s =>
      injection h1 with h1
      subst h1
      have hn : names (spl 47 s) := List.all_eq_true.1 h3
      rw [spl_head, List.filter_cons, if_neg (by decide), filter_names hn]
      exact hn
/-- A path of names is written well, and has these parts. -/
theorem made_parts {acc : List (List UInt8)} (h : names acc) : (spl 47 (47 :: joinS acc)).filter keepB = acc := by
  rw [spl_head, List.filter_cons, if_neg (by decide)]
  by_cases ha : acc = []
  · subst ha; rfl
  · rw [spl_join acc ha h, filter_names h]
theorem made_path {acc : List (List UInt8)} (h : names acc) (hl : (47 :: joinS acc).length ≤ 255) : isPathS (47 :: joinS acc) = true := by
  unfold isPathS
  by_cases ha : acc = []
  · subst ha; rfl
  · rw [List.tail_cons, spl_join acc ha h, decide_eq_true hl, List.all_eq_true.2 h]
    simp
theorem made_walk {β : Type} (E : Int → β) (G : List (List UInt8) → β) {acc : List (List UInt8)} (h : names acc) : walkK E G [] (spl 47 (47 :: joinS acc)) = G acc := by
  rw [spl_head, walkK, show keepB [] = false from rfl, cond_false]
  by_cases ha : acc = []
  · subst ha; rfl
  · rw [spl_join acc ha h, walkK_names E G acc [] h, List.nil_append]

theorem base_names (cwd p : List UInt8) : names (baseS cwd p) := by
  unfold baseS
  cases (p.head? == some 47) with
  | true => intro x hx; cases hx
  | false =>
    cases h : isPathS cwd with
    | false => intro x hx; cases hx
    | true => exact path_parts h
theorem finS_ok {acc : List (List UInt8)} (h : (47 :: joinS acc).length ≤ 255) : finS acc = (47 :: joinS acc, 0) := by
  unfold finS
  rw [decide_eq_false (by omega), cond_false]

theorem normS_cases (cwd p : List UInt8) : ((normS cwd p).2 ≠ 0 ∧ (normS cwd p).1 = []) ∨ ∃ acc, names acc ∧ (47 :: joinS acc).length ≤ 255 ∧ normS cwd p = (47 :: joinS acc, 0) := by
  unfold normS
  cases (p == []) with
  | true => exact .inl ⟨by simp, rfl⟩
  | false =>
    rw [cond_false]
    cases decide (255 < p.length) with
    | true => exact .inl ⟨by simp, rfl⟩
    | false =>
      rw [cond_false]
      rcases walkK_cases (fun e => (([] : List UInt8), e)) finS (spl 47 p) _ (base_names cwd p) with ⟨e, he, h⟩ | ⟨a, ha, h⟩
      · rw [h]; exact .inl ⟨he, rfl⟩
      · rw [h]
        by_cases hl : (47 :: joinS a).length ≤ 255
        · exact .inr ⟨a, ha, hl, finS_ok hl⟩
        · refine .inl ?_
          unfold finS
          rw [decide_eq_true (by omega), cond_true]
          exact ⟨by simp, rfl⟩

theorem norm_self (cwd : List UInt8) {acc : List (List UInt8)} (h : names acc) (hl : (47 :: joinS acc).length ≤ 255) : normS cwd (47 :: joinS acc) = (47 :: joinS acc, 0) := by
  unfold normS
  have e1 : (47 :: joinS acc == ([] : List UInt8)) = false := rfl
  have e2 : baseS cwd (47 :: joinS acc) = [] := rfl
  rw [e1, cond_false, decide_eq_false (by omega), cond_false, e2, made_walk _ _ h, finS_ok hl]
theorem base_made {acc : List (List UInt8)} (h : names acc) (hl : (47 :: joinS acc).length ≤ 255) {p : List UInt8} (hp : (p.head? == some 47) = false) : baseS (47 :: joinS acc) p = acc := by
  unfold baseS
  rw [hp, made_path h hl, cond_false, cond_true, made_parts h]
theorem norm_dot {acc : List (List UInt8)} (h : names acc) (hl : (47 :: joinS acc).length ≤ 255) : normS (47 :: joinS acc) [46] = (47 :: joinS acc, 0) := by
  have : normS (47 :: joinS acc) [46] = finS (baseS (47 :: joinS acc) [46]) := rfl
  rw [this, base_made h hl rfl, finS_ok hl]

/-- The last name taken away. -/
theorem joinS_drop {acc : List (List UInt8)} (h : names acc) : (acc = [] ∧ acc.dropLast = []) ∨ (∃ t, t ≠ [] ∧ joinS acc = joinS acc.dropLast ++ t) := by
  by_cases ha : acc = []
  · subst ha; exact .inl ⟨rfl, rfl⟩
  · refine .inr ?_
    have e := List.dropLast_concat_getLast ha
    have hx := (name_parts (h _ (List.getLast_mem ha))).1
    generalize acc.getLast ha = x at e hx
    by_cases hd : acc.dropLast = []
    · rw [hd] at e ⊢
      refine ⟨x, hx, ?_⟩
      rw [← e]
      simp [joinS, List.intercalate]
    · refine ⟨47 :: x, by simp, ?_⟩
      rw [← joinS_snoc _ x hd, e]
theorem drop_len {acc : List (List UInt8)} (h : names acc) : (joinS acc.dropLast).length ≤ (joinS acc).length := by
  rcases joinS_drop h with ⟨h1, h2⟩ | ⟨t, _, h2⟩
  · rw [h2, h1]; exact Nat.le_refl _
  · rw [h2, List.length_append]; omega
theorem norm_up {acc : List (List UInt8)} (h : names acc) (hl : (47 :: joinS acc).length ≤ 255) : normS (47 :: joinS acc) [46, 46] = (47 :: joinS acc.dropLast, 0) := by
  have : normS (47 :: joinS acc) [46, 46] = finS (baseS (47 :: joinS acc) [46, 46]).dropLast := rfl
  rw [this, base_made h hl rfl, finS_ok]
  have := drop_len h
  simp only [List.length_cons] at hl ⊢
  omega

theorem fn3_ok (k : Nat) (x0 x1 : List UInt8) : fn3 k x0 x1 = some (true, ()) := by
  unfold fn3
  by_cases h0 : (x0.length : Int) > 600
  · rw [decide_eq_true h0]; rfl
  · rw [decide_eq_false h0, cond_false]
    by_cases h1 : (x1.length : Int) > 600
    · rw [decide_eq_true h1]; rfl
    · rw [decide_eq_false h1, cond_false]
      have e0 : ∀ (a b : List UInt8), a.length ≤ 600 → cNorm.pre (a, b, ()) = true := fun a b ha => by
        have : a.length < 100000000 := by omega
        simp [cNorm, this]
      rw [e0 x0 x1 (by omega), e0 x0 _ (by omega), cond_true, cond_true]
      rcases normS_cases x0 x1 with ⟨h2, h3⟩ | ⟨acc, hn, hl, h2⟩
      · have e1 : ((normS x0 x1).2 != (0 : Int)) = true := bne_iff_ne.2 h2
        rw [e1, h3]
        rfl
      · rw [h2]
        have e1 : cPathR.pre ((47 :: joinS acc), ()) = true := by
          have : (47 :: joinS acc).length < 100000000 := by omega
          simp only [cPathR, decide_eq_true_eq]
          exact this
        have e2 : (((47 :: joinS acc, 0) : List UInt8 × Int).2 != (0 : Int)) = false := rfl
        rw [e2, cond_false]
        show (bif cNorm.pre (47 :: joinS acc, [46], ()) then _ else _) = _
        rw [e0 (47 :: joinS acc) [46] (by omega), e0 (47 :: joinS acc) [46, 46] (by omega), e1, made_path hn hl, norm_self x0 hn hl, norm_dot hn hl, norm_up hn hl]
        have hd := drop_len hn
        have e3 : decide (((47 :: joinS acc.dropLast).length : Int) > ((47 :: joinS acc).length : Int)) = false := decide_eq_false (by simp only [List.length_cons]; omega)
        have e4 : (0 ≤ (0 : Int) ∧ (0 : Int) ≤ ((47 :: joinS acc.dropLast).length : Int) ∧ ((47 :: joinS acc.dropLast).length : Int) ≤ ((47 :: joinS acc).length : Int)) := ⟨by omega, by omega, by simp only [List.length_cons]; omega⟩
        have e5 : (cutL (47 :: joinS acc) 0 (47 :: joinS acc.dropLast).length == 47 :: joinS acc.dropLast) = true := by
          rw [cutL_zero, beq_iff_eq]
          rcases joinS_drop hn with ⟨h5, h6⟩ | ⟨t, _, h6⟩
          · rw [h6, h5]; rfl
          · rw [h6, ← List.cons_append]
            exact List.take_left
        have e6 : ((47 :: joinS acc == ([47] : List UInt8)) == (47 :: joinS acc.dropLast == 47 :: joinS acc)) = true := by
          rcases joinS_drop hn with ⟨h5, h6⟩ | ⟨t, h5, h6⟩
          · rw [h6, h5]; rfl
          · have a1 : (47 :: joinS acc == ([47] : List UInt8)) = false := by
              rw [beq_eq_false_iff_ne]
              intro h
              injection h with _ h
              rw [h6] at h
              exact h5 (List.append_eq_nil_iff.1 h).2
            have a2 : (47 :: joinS acc.dropLast == 47 :: joinS acc) = false := by
              rw [beq_eq_false_iff_ne]
              intro h
              injection h with _ h
              have := congrArg List.length h
              rw [h6, List.length_append] at this
              have : 0 < t.length := List.length_pos_iff.2 h5
              omega
            rw [a1, a2]
            rfl
        have e7 : (47 :: joinS acc == 47 :: joinS acc) = true := beq_self_eq_true _
        simp only [e3, e4, e5, e6, e7]
        rfl

noncomputable def cNorms : CP := { args := [.str, .str], res := [.bool], pre := fun _ => true, spec := fun _ => (true, ()) }
theorem normsOk : CpOk Tryd.prog gl 3 cNorms := con3 (k := 0) (by
    unfold cp3s
    simp only [List.forall_mem_cons]
    exact ⟨awakeOk, normOk, pathROk, fun _ h => by cases h⟩) (fun xs h => fn3_ok _ _ _)
end Go.Proofs.YtholnbknimfbhaaDoor

