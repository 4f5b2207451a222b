/-
  An evaluator for loaded Go code and its proof, the second part; no conditions.
-/
import Derived.Test.YtholnbknimfbhaaDoorYa
import Derived.Deep.Upon
import Derived.TacticsIn
import Derived.Scope
import Derived.LoopNIn
set_option linter.unusedVariables false
namespace Go.Fy
open Go.RowKit

section
variable {P : Program} {E : Env} {t : Nat} {ti : TI} {c : Cx} {ρ : Type} {r : ρ}

/-! ### The greatest and the least -/
theorem maxG_sound (w : World) (k : IntKind) : ∀ (ps : List PV) (l : List Value) (a n : Int), minmaxG true k a ps = some n → VRs c ps l → (l.foldlM Builtin.max2 (.int k a)).run P w = .ok (.int k n) w
  | [], l, a, n, h, hl => by
    rw [VRs] at hl
    subst hl
    simp only [minmaxG, Option.some.injEq] at h
    subst h
    simp
  | p :: ps, l, a, n, h, hl => by
    rw [VRs] at hl
    obtain ⟨v, r, rfl, h1, h2⟩ := hl
    unfold minmaxG at h
    split at h
    · rename_i heq
      exact absurd heq (by simp)
    · rename_i k' b q heq
      injection heq with e1 e2
      subst e1 e2
      split at h
      · rename_i hk
        subst hk
        rw [VR] at h1
        rw [dInt_inv h1]
        have ih := maxG_sound w k' ps r _ n h h2
        simp only [cond_true] at ih
        simp only [List.foldlM_cons, Sem.run_bind, Builtin.max2, Sem.run_pure, Result.andThen_ok, ih]
      · exact absurd h (by simp)
    · exact absurd h (by simp)

theorem minG_sound (w : World) (k : IntKind) : ∀ (ps : List PV) (l : List Value) (a n : Int), minmaxG false k a ps = some n → VRs c ps l → (l.foldlM Builtin.min2 (.int k a)).run P w = .ok (.int k n) w
  | [], l, a, n, h, hl => by
    rw [VRs] at hl
    subst hl
    simp only [minmaxG, Option.some.injEq] at h
    subst h
    simp
  | p :: ps, l, a, n, h, hl => by
    rw [VRs] at hl
    obtain ⟨v, r, rfl, h1, h2⟩ := hl
    unfold minmaxG at h
    split at h
    · rename_i heq
      exact absurd heq (by simp)
    · rename_i k' b q heq
      injection heq with e1 e2
      subst e1 e2
      split at h
      · rename_i hk
        subst hk
        rw [VR] at h1
        rw [dInt_inv h1]
        have ih := minG_sound w k' ps r _ n h h2
        simp only [cond_false] at ih
        simp only [List.foldlM_cons, Sem.run_bind, Builtin.min2, Sem.run_pure, Result.andThen_ok, ih]
      · exact absurd h (by simp)
    · exact absurd h (by simp)

theorem minmaxA_sound (w : World) (mx : Bool) {as : List PV} {l : List Value} {v : PV} (h : minmaxA mx as = some v) (hl : VRs c as l) (ats : Array Nat) (ty : Nat) :
    ∃ x, VR c v x ∧ (bif mx then Builtin.max_ ats ty l.toArray else Builtin.min_ ats ty l.toArray).run P w = .ok x w := by
  unfold minmaxA at h
  split at h
  · rename_i k a rest
    split at h
    · rename_i n hn
      injection h with h
      subst h
      rw [VRs] at hl
      obtain ⟨v, r, rfl, h1, h2⟩ := hl
      rw [VR] at h1
      refine ⟨.int k n, by rw [VR]; exact dInt k n, ?_⟩
      cases mx with
      | true => simp only [cond_true, Builtin.max_, dInt_inv h1]; exact maxG_sound w k rest r a n hn h2
      | false => simp only [cond_false, Builtin.min_, dInt_inv h1]; exact minG_sound w k rest r a n hn h2
    · exact absurd h (by simp)
  · exact absurd h (by simp)

/-! ### Parts -/
def PRs (c : Cx) : List (Nat × PV) → List (Nat × Value) → Prop
  | [], l => l = []
  | p :: ps, l => ∃ v r, l = (p.1, v) :: r ∧ VR c p.2 v ∧ PRs c ps r

theorem PRs.fst {c : Cx} : ∀ (ps : List (Nat × PV)) (l : List (Nat × Value)), PRs c ps l → l.map (·.1) = ps.map (·.1)
  | [], l, h => by rw [show l = [] from h]; rfl
  | p :: ps, l, ⟨v, r, e, _, h⟩ => by rw [e, List.map_cons, List.map_cons, PRs.fst ps r h]
theorem PRs.snd {c : Cx} : ∀ (ps : List (Nat × PV)) (l : List (Nat × Value)), PRs c ps l → VRs c (ps.map (·.2)) (l.map (·.2))
  | [], l, h => by rw [show l = [] from h]; rw [List.map_nil, List.map_nil, VRs]
  | p :: ps, l, ⟨v, r, e, h1, h⟩ => by
    rw [e, List.map_cons, List.map_cons, VRs]
    exact ⟨v, _, rfl, h1, PRs.snd ps r h⟩

theorem fold_splice (off : Nat) : ∀ (vs : List Value) (k : Nat) (cells : List Value), off + k + vs.length ≤ cells.length →
    (vs.zipIdx k).foldl (fun (cs : Array Value) (x : Value × Nat) => cs.setIfInBounds (off + x.2) x.1) cells.toArray = (splice cells (off + k) vs).toArray
  | [], k, cells, _ => by simp [splice]
  | v :: vs, k, cells, h => by
    simp only [List.length_cons] at h
    rw [List.zipIdx_cons, List.foldl_cons]
    have e : cells.toArray.setIfInBounds (off + k) v = (cells.set (off + k) v).toArray := by simp
    rw [e, fold_splice off vs (k + 1) _ (by rw [List.length_set]; omega)]
    have := list_seg_step cells (off + k) v vs (by omega)
    unfold splice
    rw [← Nat.add_assoc]
    congr 1

theorem fill_step {place : Nat → Option (Nat × Nat)} {i off size : Nat} {v : Value} {r : List (Nat × Value)} {cs : List Value} (hp : place i = some (off, size)) (hs : v.cells.toList.length = size)
    (hl : off + size ≤ cs.length) : Instr.fill place cs.toArray ((i, v) :: r) = Instr.fill place (splice cs off v.cells.toList).toArray r := by
  have hs' : v.cells.size = size := by simpa using hs
  rw [Instr.fill]
  simp only [hp, hs']
  rw [if_neg (by simp; omega)]
  congr 1
  have := fold_splice off v.cells.toList 0 cs (by omega)
  rw [Nat.add_zero] at this
  rw [← this, ← Array.foldl_toList, Array.toList_zipIdx]

theorem fillA_sound (hE : EnvOk P E) (h : TOk P E t ti) {fs : List (Nat × Nat × Nat)} (places : Array (Nat × Nat))
    (hp : ∀ (i k off ft : Nat), fs[i]? = some (k, off, ft) → soff ti.shs k = off ∧ ∃ fi, P.info? ft = some fi ∧ places[i]? = some (off, fi.size)) :
    ∀ (ps : List (Nat × PV)) (us us' : List PV) (vps : List (Nat × Value)) (cs : List Value), fillA E fs us ps = some us' → PRs c ps vps → URs c us cs → (∀ u ∈ us, wfU u = true) → us.map shp = ti.shs →
      ∃ cs', Instr.fill (places[·]?) cs.toArray vps = some cs'.toArray ∧ URs c us' cs' ∧ ∀ u ∈ us', wfU u = true
  | [], us, us', vps, cs, he, hv, hu, hw, hs => by
    rw [show vps = [] from hv]
    simp only [fillA, Option.some.injEq] at he
    subst he
    exact ⟨cs, rfl, hu, hw⟩
  | (i, p) :: ps, us, us', vps, cs, he, ⟨v, r, e, h1, hv⟩, hu, hw, hs => by
    subst e
    unfold fillA at he
    split at he
    · rename_i k off ft hf
      obtain ⟨hso, fi, hfi, hpl⟩ := hp i k off ft hf
      split at he
      · rename_i tf htf
        split at he
        · rename_i vs hvs
          split at he
          · rename_i hcond
            obtain ⟨hk, hsh⟩ := hcond
            have hT := hE.tt ft tf htf
            obtain ⟨hu1, hsh1, hw1, hone⟩ := unitsOf_sound hT hvs hk h1
            obtain ⟨h3, h4⟩ := URs_splice hw hu hsh hw1 hu1
            rw [hs, hso] at h3 h4
            have hlen : v.cells.toList.length = fi.size := by
              obtain ⟨i', z', hi', hs', _⟩ := hT.inf
              rw [hfi] at hi'
              injection hi' with hi'
              rw [URs.length vs _ hw1 hu1, hsh1, hT.sz, ← hs', hi']
            obtain ⟨cs', h5, h6, h7⟩ := fillA_sound hE h places hp ps _ us' r _ he hv h3 (fun u hu => by
              rcases splice_mem hu with hu | hu
              · exact hw u hu
              · exact hw1 u hu) (by rw [splice_shp hsh, hs])
            refine ⟨cs', ?_, h6, h7⟩
            rw [fill_step (size := fi.size) hpl hlen (by omega)]
            exact h5
          · exact absurd he (by simp)
        · exact absurd he (by simp)
      · exact absurd he (by simp)
    · exact absurd he (by simp)

theorem places_some : ∀ (l : List Field), (∀ f ∈ l, ∃ i, P.info? f.type = some i) →
    ∃ places, l.mapM (fun f => (P.info? f.type).map fun i => (f.offset, i.size)) = some places ∧ ∀ (i : Nat) (f : Field), l[i]? = some f → ∃ fi, P.info? f.type = some fi ∧ places[i]? = some (f.offset, fi.size)
  | [], _ => ⟨[], rfl, by simp⟩
  | f :: l, h => by
    obtain ⟨i, hi⟩ := h f (by simp)
    obtain ⟨places, h1, h2⟩ := places_some l (fun g hg => h g (by simp [hg]))
    refine ⟨(f.offset, i.size) :: places, by simp [List.mapM_cons, hi, h1], fun j g hj => ?_⟩
    cases j with
    | zero => simp at hj; subst hj; exact ⟨i, hi, rfl⟩
    | succ j => exact h2 j g (by simpa using hj)

theorem pk1V {p : PV} {v : Value} {τ : Ty} {x : τ.den} (h : pk1 τ p = some x) (hv : VR c p v) : DV c.w c.ok τ x v := by
  unfold pk1 at h
  split at h
  · obtain ⟨e, hx⟩ := cast?_some h
    subst e hx
    rw [VR] at hv
    exact hv
  · rw [VR] at hv
    subst hv
    cases τ with
    | sl t' =>
      simp only [nilOf, Option.some.injEq] at h
      subst h
      exact ⟨_, nsl_DC, rfl⟩
    | _ => exact absurd h (by simp [nilOf])
  · exact absurd h (by simp)

theorem elems_sound {τ : Ty} : ∀ (ps : List PV) (xs : List τ.den) (vs : List Value), elems τ ps = some xs → VRs c ps vs →
    xs.length = vs.length ∧ (∀ v ∈ vs, v.cells.size = τ.sz) ∧ Chain (DC c.w c.ok τ) xs (vs.flatMap fun v => v.cells.toList)
  | [], xs, vs, h, hv => by
    rw [VRs] at hv
    subst hv
    simp only [elems, Option.some.injEq] at h
    subst h
    exact ⟨rfl, by simp, rfl⟩
  | p :: ps, xs, vs, h, hv => by
    rw [VRs] at hv
    obtain ⟨v, r, rfl, h1, h2⟩ := hv
    unfold elems at h
    split at h
    · rename_i x hx
      split at h
      · rename_i l hl
        injection h with h
        subst h
        obtain ⟨e1, e2, e3⟩ := elems_sound ps l r hl h2
        have hd := (DV_cells (pk1V hx h1)).1
        have hz := DC.length τ x _ hd
        refine ⟨by simp [e1], fun y hy => ?_, v.cells.toList, _, by simp, hd, e3⟩
        rcases List.mem_cons.1 hy with rfl | hy
        · simpa using hz
        · exact e2 y hy
      · exact absurd h (by simp)
    · exact absurd h (by simp)

theorem zip_parts : ∀ (l : List (Nat × Value)) (k : Nat), l.map (·.1) = List.range' k l.length → l = ((l.map (·.2)).zipIdx k).map fun x => (x.2, x.1)
  | [], _, _ => rfl
  | p :: l, k, h => by
    rw [List.length_cons, List.range'_succ, List.map_cons] at h
    injection h with h1 h2
    rw [List.map_cons, List.zipIdx_cons, List.map_cons, ← zip_parts l (k + 1) h2, ← h1]

theorem buildA_sound (hE : EnvOk P E) (h : TOk P E t ti) {ps : List (Nat × PV)} {vps : Array (Nat × Value)} {v : PV} (he : buildA E ti ps = some v) (hv : PRs c ps vps.toList) :
    ∃ x, VR c v x ∧ (Instr.build t vps).run P c.w = .ok x c.w := by
  obtain ⟨d, hd, hk⟩ := h.und
  obtain ⟨i, z, hi, hs, hby, hz, hzz, hu, _⟩ := h.inf
  unfold buildA at he
  split at he
  · rename_i fs hkd
    have hfsz := h.fsz fs hkd
    have hag : ti.agg = true := by rw [← h.aggk, hkd]; rfl
    rw [hkd] at hk
    simp only [TkOk] at hk
    obtain ⟨fields, rfl, hk⟩ := hk
    have hfl := h.flen fs fields hkd hd
    split at he
    · rename_i hw
      split at he
      · rename_i us hus
        have hfi : ∀ f ∈ fields.toList, ∃ fi, P.info? f.type = some fi := by
          intro f hf
          obtain ⟨j, hj, hfj⟩ := List.getElem_of_mem hf
          have hj' : j < fs.length := by rw [hfl]; simpa using hj
          have hq : fs[j]? = some ((fs[j]'hj').1, (fs[j]'hj').2.1, (fs[j]'hj').2.2) := List.getElem?_eq_getElem hj'
          obtain ⟨fi, hfi, _⟩ := hfsz j _ _ _ hq
          obtain ⟨fld, hfld, _, hft, _⟩ := hk j _ _ _ hq
          refine ⟨fi, ?_⟩
          rw [← Array.getElem?_toList, List.getElem?_eq_getElem hj, hfj] at hfld
          injection hfld with hfld
          rw [hfld, hft]
          exact hfi
        obtain ⟨places, hp1, hp2⟩ := places_some (P := P) fields.toList hfi
        obtain ⟨cs', h1, h2, h3⟩ := fillA_sound hE h places.toArray (c := c) (fs := fs) (fun j k off ft hj => by
          obtain ⟨fld, hfld, hof, hft, hso, _⟩ := hk j k off ft hj
          obtain ⟨fi, hfi, hpl⟩ := hp2 j fld (by simpa using hfld)
          exact ⟨hso, fi, by rw [← hft]; exact hfi, by rw [← hof]; simpa using hpl⟩) ps ti.zero us vps.toList z.cells.toList hus hv (hu c) (fun u hu => List.all_eq_true.1 hw u hu) h.zsh
        have hb : P.built t vps.toList = some cs'.toArray := by
          unfold Program.built
          simp only [hi, hd, hz, hp1]
          rw [← h1]
        refine ⟨.agg cs'.toArray, ?_, run_build c.w t vps _ hb⟩
        have := valOf_sound h h3 he h2
        rw [hag] at this
        exact this
      · exact absurd he (by simp)
    · exact absurd he (by simp)
  · rename_i n e hkd
    have harr := h.arr n e hkd
    rw [hkd] at hk
    simp only [TkOk] at hk
    subst hk
    split at he
    · rename_i te hte
      split at he
      · rename_i τ hτ
        split at he
        · rename_i hcond
          obtain ⟨hrg, hpos, hw⟩ := hcond
          split at he
          · rename_i xs hxs
            injection he with he
            subst he
            have hTe := hE.tt e te hte
            obtain ⟨ie, ze, hie, hse, _⟩ := hTe.inf
            have hsz : ie.size = τ.sz := by rw [hse, hTe.size_of (hTe.ty τ hτ).1]
            obtain ⟨τ', te', h1, h2, h3⟩ := harr
            rw [hte] at h2
            injection h2 with h2
            subst h2
            rw [hτ] at h3
            injection h3 with h3
            subst h3
            obtain ⟨e1, e2, e3⟩ := elems_sound _ xs _ hxs hv.snd
            have hlen : ps.length = n := by simpa using congrArg List.length hrg
            have hlv : vps.toList.length = n := by
              have := congrArg List.length hv.fst
              simpa [hlen] using this
            have hzl : z.cells.size = n * τ.sz := by
              have := URs.length ti.zero _ (fun u hu => List.all_eq_true.1 hw u hu) (hu c)
              rw [h.zsh, h1] at this
              simpa [ssz] using this
            have hzip := zip_parts vps.toList 0 (by rw [hv.fst, hrg, hlv, List.range_eq_range'])
            have hb : P.built t vps.toList = some ((vps.toList.map (·.2)).flatMap fun v => v.cells.toList).toArray := by
              unfold Program.built
              simp only [hi, hd, hz, hie]
              have hf := Great.fill_whole hpos (vps.toList.map (·.2)) z.cells e2 (by rw [List.length_map, hlv, hzl])
              rw [← hzip] at hf
              rw [hsz]
              exact hf
            refine ⟨_, ?_, run_build c.w t vps _ hb⟩
            rw [VR]
            refine ⟨_, ⟨?_, e3⟩, rfl⟩
            rw [e1, List.length_map, hlv]
          · exact absurd he (by simp)
        · exact absurd he (by simp)
      · exact absurd he (by simp)
    · exact absurd he (by simp)
  · exact absurd he (by simp)

end
end Go.Fy

set_option linter.unusedVariables false
namespace Go.Fy
open Go.RowKit

section
variable {P : Program} {E : Env} {t : Nat} {ti : TI} {c : Cx} {ρ : Type} {r : ρ}

/-! ### Literals -/
theorem buildSliceA_sound (hE : EnvOk P E) {w0 : World} (hr : Rel w0 c) {ty len : Nat} {ps : List (Nat × PV)} {vps : Array (Nat × Value)} {K : PV → List Blk → Option ρ} (he : buildSliceA E c.H ty len ps K = some r) (hv : PRs c ps vps.toList) :
    ∃ c' p v, K p c'.H = some r ∧ VR c' p v ∧ Mv w0 c c' ∧ (Instr.buildSlice ty len vps).run P c.w = .ok v c'.w := by
  unfold buildSliceA at he
  split at he
  · exact absurd he (by simp)
  · rename_i ti hti
    have h := hE.tt ty ti hti
    obtain ⟨d, hd, hk⟩ := h.und
    split at he
    · rename_i e hkd
      rw [hkd] at hk
      simp only [TkOk] at hk
      subst hk
      split at he
      · exact absurd he (by simp)
      · rename_i te hte
        split at he
        · exact absurd he (by simp)
        · rename_i τ hτ
          split at he
          · rename_i hcond
            obtain ⟨hrg, hpos, hsm⟩ := hcond
            split at he
            · exact absurd he (by simp)
            · rename_i xs hxs
              have hTe := hE.tt e te hte
              obtain ⟨ie, ze, hie, hse, _, hze, _⟩ := hTe.inf
              have hsz : ie.size = τ.sz := by rw [hse, hTe.size_of (hTe.ty τ hτ).1]
              obtain ⟨e1, e2, e3⟩ := elems_sound _ xs _ hxs hv.snd
              have hlen : ps.length = len := by simpa using congrArg List.length hrg
              have hlv : vps.toList.length = len := by
                have := congrArg List.length hv.fst
                simpa [hlen] using this
              have hzip := zip_parts vps.toList 0 (by rw [hv.fst, hrg, hlv, List.range_eq_range'])
              have hxl : xs.length = len := by rw [e1, List.length_map, hlv]
              have hcl := Chain.length (fun x cs => DC.length τ x cs) _ _ e3
              have hml : len ≤ maxLen := by
                have : len * 1 ≤ len * τ.sz := Nat.mul_le_mul_left _ hpos
                simp only [maxLen]
                omega
              have hps := push_row hr e3 hpos (rest := []) (cap := len) (by rw [List.append_nil, hcl, hxl]) (by omega) hml e
              rw [hxl, List.append_nil] at hps
              refine ⟨_, _, _, he, hps.2, hps.1, ?_⟩
              by_cases h0 : len = 0
              · subst h0
                have hn : vps.toList = [] := List.eq_nil_of_length_eq_zero hlv
                have hn' : vps = #[] := by rw [← Array.toArray_toList (xs := vps), hn]
                subst hn'
                simp [Instr.buildSlice, run_underlying hd, sizeOf, typeInfo, hie, newRow, Instr.fill, Cx.push, Array.range_zero']
              · refine run_buildSlice c.w ty e len vps _ ie ze hd hie hze (by rw [hsz]; omega) (by rw [hsz]; have := Nat.mul_pos (Nat.pos_of_ne_zero h0) hpos; omega) ?_
                have hf := Great.fill_whole hpos (vps.toList.map (·.2)) ((Array.range (len * ie.size)).map (ze.cells[· % ze.cells.size]!)) e2 (by simp [hlv, hsz])
                rw [← hzip] at hf
                rw [hsz] at hf ⊢
                exact hf
          · exact absurd he (by simp)
    · exact absurd he (by simp)

/-! ### Made slices -/
theorem madeCells_eq {z : Value} {s n : Nat} (hs : 0 < s) (hz : z.cells.size = s) : (madeCells z.cells (n * s)).toList = (List.replicate n z).flatMap fun v => v.cells.toList := by
  apply List.ext_getElem?
  intro k
  rw [Great.flat_get hs _ (fun v hv => by rw [List.eq_of_mem_replicate hv]; exact hz) k]
  by_cases hk : k < n * s
  · have h1 : k / s < n := by rw [Nat.div_lt_iff_lt_mul hs]; exact hk
    have h2 : k % s < z.cells.size := by rw [hz]; exact Nat.mod_lt _ hs
    have e : (madeCells z.cells (n * s)).toList[k]? = some (z.cells[k % z.cells.size]!) := by simp [madeCells, hk]
    rw [e, List.getElem?_replicate, if_pos h1, Option.bind_some, Array.getElem?_eq_getElem h2, hz, getElem!_pos z.cells (k % s) h2]
  · have h1 : ¬ k / s < n := by rw [Nat.div_lt_iff_lt_mul hs]; exact hk
    simp [madeCells, hk, h1]

theorem chain_rep {w : World} {ok : Nat → Prop} {τ : Ty} {x : τ.den} {cs : List Value} (h : DC w ok τ x cs) : ∀ n, Chain (DC w ok τ) (List.replicate n x) ((List.replicate n cs).flatten)
  | 0 => rfl
  | n + 1 => by
    rw [List.replicate_succ, List.replicate_succ, List.flatten_cons]
    exact ⟨cs, _, rfl, h, chain_rep h n⟩

theorem makeA_sound (hE : EnvOk P E) {w0 : World} (hr : Rel w0 c) {ty : Nat} {l n : Int} {kl kc : IntKind} {K : PV → List Blk → Option ρ} (he : makeA E c.H ty l n K = some r) :
    ∃ c' p v, K p c'.H = some r ∧ VR c' p v ∧ Mv w0 c c' ∧ (Instr.makeSlice ty (.int kl l) (.int kc n)).run P c.w = .ok v c'.w := by
  unfold makeA at he
  split at he
  · exact absurd he (by simp)
  · rename_i ti hti
    have h := hE.tt ty ti hti
    obtain ⟨d, hd, hk⟩ := h.und
    split at he
    · rename_i e hkd
      rw [hkd] at hk
      simp only [TkOk] at hk
      subst hk
      split at he
      · exact absurd he (by simp)
      · rename_i te hte
        split at he
        · exact absurd he (by simp)
        · rename_i τ hτ
          split at he
          · rename_i hcond
            obtain ⟨h0, hln, hby, hpos, hbp⟩ := hcond
            have hTe := hE.tt e te hte
            obtain ⟨ie, ze, hie, hse, hbe, hze, _, _, hdf⟩ := hTe.inf
            have hsz : ie.size = τ.sz := by rw [hse, hTe.size_of (hTe.ty τ hτ).1]
            have hdc := hdf τ hτ c.w c.ok
            have hzc : ze.cells.size = τ.sz := by simpa using DC.length τ _ _ hdc
            obtain ⟨l', rfl⟩ := Int.eq_ofNat_of_zero_le h0
            obtain ⟨n', rfl⟩ := Int.eq_ofNat_of_zero_le (Int.le_trans h0 hln)
            simp only [Int.toNat_natCast] at he
            have hb0 : ((n' * te.bytes : Nat) : Int) ≤ 140737488355328 := by rw [Int.natCast_mul]; exact hby
            have hb1 : n' * te.bytes ≤ 140737488355328 := by omega
            have hb2 : (ie.bytes : Int) * (n' : Int) ≤ 281474976710656 := by rw [hbe, Int.mul_comm, ← Int.natCast_mul]; omega
            have hn1 : n' ≤ 140737488355328 := by
              have : n' * 1 ≤ n' * te.bytes := Nat.mul_le_mul_left _ hbp
              omega
            have hrun := run_make (P := P) c.w ty e ie ze hd hie hze kl kc (l' : Int) (n' : Int) h0 hln hb2 (by omega)
            simp only [Int.toNat_natCast] at hrun
            have hcells : (madeCells ze.cells (n' * ie.size)).toList = (List.replicate l' ze.cells.toList).flatten ++ (List.replicate (n' - l') ze.cells.toList).flatten := by
              rw [hsz, madeCells_eq hpos hzc, ← List.flatten_append, List.replicate_append_replicate, show l' + (n' - l') = n' by omega, List.flatMap_def, List.map_replicate]
            have hch := chain_rep hdc l'
            have hcl : ((List.replicate l' ze.cells.toList).flatten ++ (List.replicate (n' - l') ze.cells.toList).flatten).length = n' * τ.sz := by
              rw [← hcells, hsz]
              simp [madeCells]
            have hps := push_row hr hch hpos hcl (by rw [List.length_replicate]; omega) (by simp only [maxLen]; omega) e
            rw [List.length_replicate] at hps
            refine ⟨_, _, _, he, hps.2, hps.1, ?_⟩
            rw [hrun, ← hcells]
            rfl
          · exact absurd he (by simp)
    · exact absurd he (by simp)

/-! ### What a slice holds -/
theorem own_at {w0 : World} (hr : Rel w0 c) {i e : Nat} {cs : List Value} (hh : c.w.heap[c.bs.getD i 0]? = some (.cells cs.toArray e (0, 0))) : At c.w (c.bs.getD i 0) 0 cs := by
  intro j v hj
  generalize c.bs.getD i 0 = g at hh ⊢
  simp [World.cell?, hh, hj]

theorem rowOf_sound {w0 : World} (hr : Rel w0 c) {x : PV} {vx : Value} {τ : Ty} {ys : List τ.den} (hx : VR c x vx) (he : rowOf c.H x = some ⟨τ, ys⟩) :
    ∃ a cap news, vx = .slice a ys.length cap ∧ ys.length ≤ cap ∧ Chain (DC c.w c.ok τ) ys news ∧
      (ys ≠ [] → ∃ b o, a = some ⟨b, o, none⟩ ∧ At c.w b o news ∧ (c.ok b ∨ ∃ i, live c.H i ∧ b = c.bs.getD i 0 ∧ (isAr x = false → ∃ ver off len, x = .ro i ver off len))) := by
  unfold rowOf at he
  split at he
  · rename_i τ' xs
    injection he with he
    cases he
    rw [VR] at hx
    obtain ⟨a, cap, rfl, hcap, hne⟩ := dSl_inv hx
    by_cases hn : ys = []
    · subst hn
      exact ⟨a, cap, [], rfl, hcap, rfl, fun h => absurd rfl h⟩
    · obtain ⟨b, off, ds, e, hok, hc, ha⟩ := hne hn
      exact ⟨a, cap, ds, rfl, hcap, hc, fun _ => ⟨b, off, e, ha, .inl hok⟩⟩
  · rename_i b ver off len
    split at he
    · rename_i e τ' xs u hb
      split at he
      · rename_i hv
        injection he with he
        cases he
        rw [VR] at hx
        obtain ⟨_, hx⟩ := hx.2.2 _ _ _ _ hb
        obtain ⟨h1, h2, rfl⟩ := hx hv
        obtain ⟨cs, rest, hh, hc, _⟩ := hr.blk b _ hb
        have ha := (own_at hr hh).split.1
        obtain ⟨ds, h3, h4⟩ := Chain.sub (fun x cs => DC.length τ x cs) hc ha off (off + len) (by omega) h1
        have e1 : cutL xs off (off + len) = (xs.drop off).take len := by
          unfold cutL
          rw [List.drop_take]
          congr 1
          omega
        rw [e1] at h3
        rw [Nat.zero_add] at h4
        have hln : ((xs.drop off).take len).length = len := by rw [List.length_take, List.length_drop]; omega
        refine ⟨_, c.caps.getD b 0 - off, ds, by rw [hln], by rw [hln]; omega, h3, fun _ => ⟨_, _, rfl, h4, .inr ⟨b, ⟨_, hb, by simp⟩, rfl, fun _ => ⟨_, _, _, rfl⟩⟩⟩⟩
      · exact absurd he (by simp)
    · exact absurd he (by simp)
  · rename_i b i off len
    split at he
    · rename_i us hb
      split at he
      · rename_i n τ' xs hui
        injection he with he
        cases he
        rw [VR] at hx
        obtain ⟨n', τ', cap, h1, h2, h3, rfl⟩ := hx.2.2 _ hb
        rw [List.getElem?_map, hui] at h1
        simp only [Option.map_some, shp, Option.some.injEq, Prod.mk.injEq] at h1
        obtain ⟨rfl, rfl⟩ := h1
        obtain ⟨cs, e, hh, hus, hwu⟩ := hr.blk b _ hb
        obtain ⟨ds, h4, h5, _⟩ := URs.at_ hwu hus (own_at hr hh) i 1
        have hlt : i < us.length := (List.getElem?_eq_some_iff.1 hui).1
        have e1 : (us.drop i).take 1 = [.d (.arr n τ) xs] := by
          rw [List.drop_eq_getElem_cons hlt, List.getElem?_eq_getElem hlt] at *
          injection hui with hui
          rw [hui]
          rfl
        rw [e1] at h4
        obtain ⟨a, d, e2, hua, hn⟩ := URs_cons.1 h4
        rw [URs] at hn
        subst hn
        rw [List.append_nil] at e2
        subst e2
        obtain ⟨hxl, hch⟩ := hua
        rw [Nat.zero_add] at h5
        obtain ⟨ds', h6, h7⟩ := Chain.sub (fun x cs => DC.length τ x cs) hch h5 off (off + len) (by omega) (by omega)
        have e3 : cutL xs off (off + len) = (xs.drop off).take len := by
          unfold cutL
          rw [List.drop_take]
          congr 1
          omega
        rw [e3] at h6
        have hln : ((xs.drop off).take len).length = len := by rw [List.length_take, List.length_drop]; omega
        refine ⟨_, cap, ds', by rw [hln], by rw [hln]; exact h3, h6, fun _ => ⟨_, _, rfl, h7, .inr ⟨b, ⟨_, hb, by simp⟩, rfl, fun h => by simp [isAr] at h⟩⟩⟩
      · exact absurd he (by simp)
    · exact absurd he (by simp)
  · exact absurd he (by simp)

end
end Go.Fy

set_option linter.unusedVariables false
namespace Go.Fy
open Go.RowKit

/-! ### A row that moves -/
def Cx.move (c : Cx) (i : Nat) (x : Blk) (cap : Nat) (w' : World) : Cx := { c with w := w', bs := c.bs.set i c.w.heap.size, caps := c.caps.set i cap, H := c.H.set i x }

structure Moves (c : Cx) (w' : World) : Prop where
  below : Below c.w.heap.size c.w w'
  size : c.w.heap.size < w'.heap.size

theorem getD_set_ne {l : List Nat} {i j x : Nat} (h : i ≠ j) : (l.set i x).getD j 0 = l.getD j 0 := by simp [List.getD_eq_getElem?_getD, List.getElem?_set_ne h]
theorem getD_set_eq {l : List Nat} {i x : Nat} (h : i < l.length) : (l.set i x).getD i 0 = x := by simp [List.getD_eq_getElem?_getD, h]

section
variable {P : Program} {E : Env} {t : Nat} {ti : TI} {c : Cx} {ρ : Type} {r : ρ}

theorem move_ext {w0 : World} (h : Rel w0 c) {i e cap : Nat} {t t' : Ty} {xs : List t.den} {xs' : List t'.den} {u : Nat} {w' : World} (hi : c.H[i]? = some (.row e t xs u)) (hm : Moves c w') :
    Ext c (c.move i (.row e t' xs' (u + 1)) cap w') := by
  have hl : live c.H i := ⟨_, hi, by simp⟩
  refine ⟨⟨fun b hb => ?_, fun b hb => ?_⟩, by simp [Cx.move], fun j y y' hy hy' => ?_⟩
  · rcases hb with hb | ⟨h1, h2, h3⟩
    · exact .inl hb
    · refine .inr ⟨h1, Nat.lt_trans h2 hm.size, fun j hj => ?_⟩
      simp only [Cx.move] at hj ⊢
      have hj' := (live_set (by simp) hl).1 hj
      by_cases hij : i = j
      · subst hij
        rw [getD_set_eq (by rw [h.len]; exact live_lt hl)]
        omega
      · rw [getD_set_ne hij]
        exact h3 j hj'
  · refine hm.below.block b ?_
    rcases hb with hb | ⟨h1, h2, h3⟩
    · have := h.okl b hb
      have := h.lo
      have := h.below.size
      omega
    · exact h2
  · by_cases hij : i = j
    · subst hij
      rw [hi] at hy
      injection hy with hy
      subst hy
      have hlt := live_lt hl
      simp only [Cx.move, List.getElem?_set_self hlt, Option.some.injEq] at hy'
      subst hy'
      exact ⟨Nat.le_succ u, fun h => by omega⟩
    · simp only [Cx.move, List.getElem?_set_ne hij] at hy'
      rw [hy] at hy'
      injection hy' with hy'
      subst hy'
      exact Goes.same (by simp only [Cx.move]; exact getD_set_ne hij) (by simp only [Cx.move]; exact getD_set_ne hij) y

theorem move_rel {w0 : World} (h : Rel w0 c) {i e cap : Nat} {t t' : Ty} {xs : List t.den} {xs' : List t'.den} {u : Nat} {w' : World} (hi : c.H[i]? = some (.row e t xs u)) (hm : Moves c w')
    (hb : BR (c.move i (.row e t' xs' (u + 1)) cap w') i (.row e t' xs' (u + 1))) : Rel w0 (c.move i (.row e t' xs' (u + 1)) cap w') := by
  have hext := move_ext h (cap := cap) (xs' := xs') hi hm
  have hl : live c.H i := ⟨_, hi, by simp⟩
  have hlt := live_lt hl
  have lv : ∀ j, live (c.move i (.row e t' xs' (u + 1)) cap w').H j → live c.H j := fun j hj => (live_set (by simp) hl).1 hj
  have new : (c.move i (.row e t' xs' (u + 1)) cap w').bs.getD i 0 = c.w.heap.size := getD_set_eq (by rw [h.len]; exact hlt)
  have old : ∀ j, i ≠ j → (c.move i (.row e t' xs' (u + 1)) cap w').bs.getD j 0 = c.bs.getD j 0 := fun j hj => getD_set_ne hj
  have hlo : c.lo ≤ c.w.heap.size := by have := h.lo; have := h.below.size; omega
  refine ⟨h.lo, h.okl, by simp [Cx.move, h.len], by simp [Cx.move, h.lenc], h.below.trans (hm.below.mono hlo), ?_, ?_, ?_⟩
  · intro j k hj hk he
    by_cases hij : i = j <;> by_cases hik : i = k
    · omega
    · subst hij
      rw [new, old k hik] at he
      have := (h.rng k (lv k hk)).2
      omega
    · subst hik
      rw [new, old j hij] at he
      have := (h.rng j (lv j hj)).2
      omega
    · rw [old j hij, old k hik] at he
      exact h.inj j k (lv j hj) (lv k hk) he
  · intro j hj
    by_cases hij : i = j
    · subst hij
      rw [new]
      exact ⟨hlo, hm.size⟩
    · rw [old j hij]
      have := h.rng j (lv j hj)
      exact ⟨this.1, Nat.lt_trans this.2 hm.size⟩
  · intro j y hy
    by_cases hij : i = j
    · subst hij
      simp only [Cx.move, List.getElem?_set_self hlt, Option.some.injEq] at hy
      subst hy
      exact hb
    · simp only [Cx.move, List.getElem?_set_ne hij] at hy
      by_cases hd : y = .dead
      · subst hd; trivial
      · exact BR.ext hext (old j hij) (by simp only [Cx.move]; exact getD_set_ne hij) (hm.below.block _ (h.rng j ⟨y, hy, hd⟩).2) (h.blk j y hy)

/-! ### What is appended -/
theorem chain_bytes (w : World) (ok : Nat → Prop) : ∀ l : List UInt8, Chain (DC w ok (.int .u8)) (l.map fun b => (b.toNat : Int)) (l.map fun b => Value.int .u8 b.toNat)
  | [] => rfl
  | b :: l => ⟨[.int .u8 b.toNat], _, rfl, rfl, chain_bytes w ok l⟩

theorem newsOf_sound (hE : EnvOk P E) {w0 : World} (hr : Rel w0 c) {tx : Nat} (hk : srcTy E tx = true) {x : PV} {vx : Value} {τ : Ty} {ys : List τ.den} (hx : VR c x vx) (he : newsOf c.H x τ = some ys) :
    ∃ news, Src P τ.sz tx vx ys.length news c.w ∧ Chain (DC c.w c.ok τ) ys news := by
  have hkind : (∃ e', P.underlying tx = some (.slice e')) ∨ P.underlying tx = some .string := by
    unfold srcTy kindOf at hk
    cases htx : E.tt tx with
    | none => simp [htx] at hk
    | some ti =>
      obtain ⟨d, hd, hkk⟩ := (hE.tt tx ti htx).und
      simp only [htx] at hk
      cases hkd : ti.kind with
      | str => rw [hkd] at hkk; simp only [TkOk] at hkk; subst hkk; exact .inr hd
      | sl e => rw [hkd] at hkk; simp only [TkOk] at hkk; subst hkk; exact .inl ⟨_, hd⟩
      | _ => simp [hkd] at hk
  unfold newsOf at he
  split at he
  · injection he with he
    subst he
    rw [VR] at hx
    subst hx
    exact ⟨[], ⟨hkind, fun _ => rfl, run_firstCells_none c.w _ 0 0 0, run_firstCells_none c.w.drew _ 0 0 0, by simp, fun _ h => by cases h⟩, rfl⟩
  · rename_i s
    split at he
    · injection he with he
      subst he
      rw [VR] at hx
      rw [dStr_inv hx]
      refine ⟨byteCells ⟨s.toArray⟩, ?_, ?_⟩
      · have e : (s.map fun b => (b.toNat : Int)).length = (⟨s.toArray⟩ : ByteArray).size := by rw [List.length_map]; simp [ByteArray.size]
        rw [e]
        exact ⟨hkind, fun _ => rfl, firstCells_string _ _, firstCells_string _ _, by rw [byteCells_length]; simp [Ty.sz], fun u hu => by
          obtain ⟨_, _, rfl⟩ := List.mem_map.1 hu
          rfl⟩
      · exact chain_bytes c.w c.ok s
    · exact absurd he (by simp)
  · split at he
    · rename_i τ' zs hz
      obtain ⟨e, hq⟩ := cast?_some he
      injection e with e
      subst e
      simp only at hq
      subst hq
      obtain ⟨a, cap, news, rfl, _, hc, ha⟩ := rowOf_sound hr hx hz
      have hl := Chain.length (fun x cs => DC.length τ' x cs) _ _ hc
      refine ⟨news, ?_, hc⟩
      have h1 : ∀ u ∈ news, u.oneCell' = true := Chain.all (fun x cs => DC.one τ' x cs) _ _ hc
      by_cases hn : ys = []
      · subst hn
        rw [show news = [] from hc]
        cases a with
        | none => exact ⟨hkind, fun _ => rfl, run_firstCells_none c.w _ 0 0 cap, run_firstCells_none c.w.drew _ 0 0 cap, by simp, fun _ h => by cases h⟩
        | some a => exact ⟨hkind, fun _ => rfl, run_firstCells_some c.w _ 0 a 0 cap [] (by simp) (by simp), run_firstCells_some c.w.drew _ 0 a 0 cap [] (by simp) (by simp), by simp, fun _ h => by cases h⟩
      · obtain ⟨b, o, rfl, hat, _⟩ := ha hn
        have hcell : ∀ j u, news[j]? = some u → c.w.cell? ((⟨b, o, none⟩ : Addr).add j) = some u := fun j u hj => by rw [add_zero_addr]; exact hat j u hj
        exact ⟨hkind, fun _ => rfl, run_firstCells_some c.w _ _ _ _ _ news hl hcell, run_firstCells_some c.w.drew _ _ _ _ _ news hl (by simpa using hcell), hl, h1⟩
    · exact absurd he (by simp)

end
end Go.Fy

set_option linter.unusedVariables false
namespace Go.Fy
open Go.RowKit

section
variable {P : Program} {E : Env} {t : Nat} {ti : TI} {c : Cx} {ρ : Type} {r : ρ}

theorem below_drew (w : World) (B : Nat) : Below B w w.drew := ⟨rfl, rfl, rfl, Nat.le_refl _, fun _ _ => rfl⟩

theorem on_mv {w0 : World} (h : Rel w0 c) {w' : World} (hb : Below c.w.heap.size c.w w') : Mv w0 c (c.on w') := ⟨on_rel h hb, on_ext h hb, rfl⟩

theorem length_zeroCells (z : Array Value) (n : Nat) : (Builtin.zeroCells z n).toList.length = n * z.size := by rw [Array.length_toList, size_zeroCells]
theorem toArr (l : List Value) (a : Array Value) : l.toArray ++ a = (l ++ a.toList).toArray := by apply Array.ext'; simp

/-- A row's slice, of its block. -/
theorem VR_row {b : Nat} {e : Nat} {τ : Ty} {zs : List τ.den} {u n g cap : Nat} (hb : c.H[b]? = some (.row e τ zs u)) (hg : c.bs.getD b 0 = g) (hc : c.caps.getD b 0 = cap) (h1 : n ≤ zs.length) (h2 : zs.length ≤ cap) :
    VR c (.ro b u 0 n) (.slice (some ⟨g, 0, none⟩) n cap) := by
  rw [VR]
  refine ⟨⟨_, _, _, rfl⟩, (List.getElem?_eq_some_iff.1 hb).1, fun e' t' xs' u' hx => ?_⟩
  rw [hb] at hx
  injection hx with hx
  cases hx
  exact ⟨Nat.le_refl _, fun _ => ⟨by omega, by rw [hc]; exact h2, by rw [hg, hc, Nat.zero_mul, Nat.sub_zero]⟩⟩

theorem appendA_sound (hE : EnvOk P E) {w0 : World} (hr : Rel w0 c) {ty tx : Nat} {s x : PV} {vs vx : Value} {K : PV → List Blk → List Nat → Option ρ} (he : appendA E c.H ty tx s x K = some r)
    (hs : VR c s vs) (hx : VR c x vx) (rt : Nat) :
    ∃ c' p v lg, K p c'.H lg = some r ∧ VR c' p v ∧ Mv w0 c c' ∧ (Builtin.append_ #[ty, tx] rt #[vs, vx]).run P c.w = .ok v c'.w := by
  unfold appendA at he
  split at he
  · exact absurd he (by simp)
  · rename_i ti hti
    obtain ⟨d, hd, hk⟩ := (hE.tt ty ti hti).und
    split at he
    · rename_i e hkd
      rw [hkd] at hk
      simp only [TkOk] at hk
      subst hk
      split at he
      · exact absurd he (by simp)
      · rename_i te hte
        have hTe := hE.tt e te hte
        obtain ⟨ie, ze, hie, hse, hbe, hze, _, _, hdf⟩ := hTe.inf
        obtain ⟨hsrc, he⟩ := bif_some he
        split at he
        · split at he
          · exact absurd he (by simp)
          · rename_i τ hτ
            have hsz : ie.size = τ.sz := by rw [hse, hTe.size_of (hTe.ty τ hτ).1]
            have hzc : ze.cells.size = τ.sz := by simpa using DC.length τ _ _ (hdf τ hτ c.w c.ok)
            split at he
            · exact absurd he (by simp)
            · rename_i ys hys
              obtain ⟨news, hsr, hch⟩ := newsOf_sound hE hr hsrc hx hys
              rw [VR] at hs
              subst hs
              split at he
              · rename_i hem
                have hnil : ys = [] := List.isEmpty_iff.1 hem
                subst hnil
                rw [show news = [] from hch, List.length_nil, ← hsz] at hsr
                exact ⟨c, .nsl, .slice none 0 0, _, he, by rw [VR], Mv.refl hr, run_append_nothing c.w ty tx rt e ie hd hie none 0 0 (Nat.le_refl _) vx hsr⟩
              · rename_i hem
                split at he
                · rename_i hcond
                  obtain ⟨hpos, hbp, hby⟩ := hcond
                  have hne : 0 < ys.length := by
                    cases ys with
                    | nil => exact absurd rfl hem
                    | cons _ _ => simp
                  have hn1 : ys.length ≤ 140737488355328 := by
                    have : ys.length * 1 ≤ ys.length * te.bytes := Nat.mul_le_mul_left _ hbp
                    omega
                  rw [← hsz] at hsr
                  have hnx := nextslicecap_le (need := 0 + ys.length) (old := 0) (by omega)
                  have hfit : Builtin.nextslicecap (0 + ys.length) 0 * ie.bytes ≤ 281474976710656 := by
                    rw [hbe]
                    have := Nat.mul_le_mul_right te.bytes hnx
                    have e1 : 2 * (0 + ys.length) * te.bytes = 2 * (ys.length * te.bytes) := by rw [Nat.zero_add, Nat.mul_assoc]
                    omega
                  have hrun := run_append_grow_src (P := P) c.w ty tx rt e ie ze hd hie hze none 0 0 [] (run_firstCells_none c.w.drew _ 0 0 0) vx ys.length news hsr (by omega) (by omega) hfit
                  rw [Nat.zero_add, List.nil_append, toArr] at hrun
                  have hge := grownCap_ge c.w ys.length 0 e
                  have hcm := grownCap_le_maxLen c.w ys.length 0 e (by simp only [maxLen]; omega)
                  have hm := on_mv hr (below_drew c.w c.w.heap.size)
                  have hch' := Chain.mono (fun x cs => DC.keeps hm.ext.keeps τ x cs) _ _ hch
                  have hl : (news ++ (Builtin.zeroCells ze.cells (grownCap c.w ys.length 0 e - ys.length)).toList).length = grownCap c.w ys.length 0 e * τ.sz := by
                    rw [List.length_append, hsr.newsLen, length_zeroCells, hzc, hsz, ← Nat.add_mul]
                    congr 1
                    omega
                  have hps := push_row hm.rel hch' hpos hl hge hcm e
                  refine ⟨_, _, _, _, he, hps.2, hm.trans hps.1, ?_⟩
                  rw [hrun]
                  rfl
                · exact absurd he (by simp)
        · rename_i b ver off len he0
          clear he0
          split at he
          · rename_i e' τ xs u hb
            split at he
            · rename_i hcond
              obtain ⟨rfl, rfl, rfl, hτ⟩ := hcond
              have hsz : ie.size = τ.sz := by rw [hse, hTe.size_of (hTe.ty τ hτ).1]
              have hzc : ze.cells.size = τ.sz := by simpa using DC.length τ _ _ (hdf τ hτ c.w c.ok)
              split at he
              · exact absurd he (by simp)
              · rename_i ys hys
                split at he
                · rename_i hcond
                  obtain ⟨hbp, hby⟩ := hcond
                  obtain ⟨news, hsr, hch⟩ := newsOf_sound hE hr hsrc hx hys
                  rw [← hsz] at hsr
                  rw [VR] at hs
                  obtain ⟨_, hs⟩ := hs.2.2 _ _ _ _ hb
                  obtain ⟨hlx, hlc, rfl⟩ := hs rfl
                  rw [Nat.zero_add] at hlx
                  rw [Nat.zero_mul, Nat.sub_zero]
                  obtain ⟨cs, rest, hh, hcx, hpos, hcl, _, hcm0⟩ := hr.blk b _ hb
                  have hlive : live c.H b := ⟨_, hb, by simp⟩
                  have hblt := live_lt hlive
                  -- the first cells
                  have hsp : xs = xs.take len ++ xs.drop len := (List.take_append_drop len xs).symm
                  rw [hsp] at hcx
                  obtain ⟨a, a2, e1, hca, _⟩ := (Chain.append _ _ _).1 hcx
                  have hal : a.length = len * τ.sz := by
                    have := Chain.length (fun x cs => DC.length τ x cs) _ _ hca
                    rw [List.length_take, Nat.min_eq_left hlx] at this
                    exact this
                  have hn1 : len + ys.length ≤ 140737488355328 := by
                    have : (len + ys.length) * 1 ≤ (len + ys.length) * te.bytes := Nat.mul_le_mul_left _ hbp
                    omega
                  have hnl : news.length = ys.length * τ.sz := by rw [hsr.newsLen, hsz]
                  have hzl : (xs.take len ++ ys).length = len + ys.length := by rw [List.length_append, List.length_take, Nat.min_eq_left hlx]
                  by_cases hroom : len + ys.length ≤ c.caps.getD b 0
                  · -- room
                    have hmul : (len + ys.length) * τ.sz ≤ c.caps.getD b 0 * τ.sz := Nat.mul_le_mul_right _ hroom
                    rw [Nat.add_mul] at hmul
                    have hst := run_storeCells_at P (c.bs.getD b 0) (len * τ.sz) e' news 0 (cs ++ rest).toArray c.w hh (by simp only [Nat.add_zero, List.size_toArray]; omega) hsr.one
                    simp only [Nat.add_zero] at hst
                    have hrun : (Builtin.append_ #[ty, tx] rt #[.slice (some ⟨c.bs.getD b 0, 0, none⟩) len (c.caps.getD b 0), vx]).run P c.w =
                        .ok (.slice (some ⟨c.bs.getD b 0, 0, none⟩) (len + ys.length) (c.caps.getD b 0)) (c.w.setRow (c.bs.getD b 0) ((cs ++ rest).take (len * τ.sz) ++ news ++ (cs ++ rest).drop (len * τ.sz + news.length)).toArray) := by
                      have hcs := hsr.cells
                      rw [hsz] at hcs
                      generalize (cs ++ rest).take (len * τ.sz) ++ news ++ (cs ++ rest).drop (len * τ.sz + news.length) = L at hst ⊢
                      generalize c.bs.getD b 0 = g at hst ⊢
                      generalize c.caps.getD b 0 = cap at hroom ⊢
                      rcases hsr.kind with ⟨e', hk⟩ | hk <;> simp [Builtin.append_, run_underlying hd, run_underlying hk, sizeOf, typeInfo, hie, hsr.len, hroom, hcs, Addr.add_lit, hsz, hst]
                    have ht := turns_setRow (x := .row e' τ (xs.take len ++ ys) (ver + 1)) hr hb (by simp) ((cs ++ rest).take (len * τ.sz) ++ news ++ (cs ++ rest).drop (len * τ.sz + news.length)).toArray
                    have hg : Goes c (c.turn b (.row e' τ (xs.take len ++ ys) (ver + 1)) (c.w.setRow (c.bs.getD b 0) ((cs ++ rest).take (len * τ.sz) ++ news ++ (cs ++ rest).drop (len * τ.sz + news.length)).toArray)) b
                        (.row e' τ xs ver) (.row e' τ (xs.take len ++ ys) (ver + 1)) := ⟨Nat.le_succ _, fun h => by omega⟩
                    have hext := turn_ext hr hb (by simp) (by simp) ht hg
                    have htk : (cs ++ rest).take (len * τ.sz) = a := by rw [e1, List.append_assoc, List.take_append_of_le_length (by omega), ← hal, List.take_length]
                    have hrel := turn_rel hr hb (by simp) (by simp) ht hg (by
                      refine ⟨a ++ news, (cs ++ rest).drop (len * τ.sz + news.length), ?_, ?_, hpos, ?_, ?_, hcm0⟩
                      · have := setRow_heap c.w (c.bs.getD b 0) (cs ++ rest).toArray ((cs ++ rest).take (len * τ.sz) ++ news ++ (cs ++ rest).drop (len * τ.sz + news.length)).toArray e' (0, 0) hh
                        rw [htk] at this
                        simp only [Cx.turn]
                        rw [htk]
                        exact this
                      · exact (Chain.append _ _ _).2 ⟨a, news, rfl, Chain.mono (fun x cs => DC.keeps hext.keeps τ x cs) _ _ hca, Chain.mono (fun x cs => DC.keeps hext.keeps τ x cs) _ _ hch⟩
                      · simp only [List.length_append, List.length_drop, Cx.turn] at hcl ⊢
                        omega
                      · rw [hzl]; exact hroom)
                    have hH : (c.turn b (.row e' τ (xs.take len ++ ys) (ver + 1)) (c.w.setRow (c.bs.getD b 0) ((cs ++ rest).take (len * τ.sz) ++ news ++ (cs ++ rest).drop (len * τ.sz + news.length)).toArray)).H[b]? = some (.row e' τ (xs.take len ++ ys) (ver + 1)) := by
                      simp [Cx.turn, hblt]
                    exact ⟨_, _, _, _, he, VR_row hH rfl rfl (by omega) (by rw [hzl]; exact hroom), ⟨hrel, hext, rfl⟩, hrun⟩
                  · -- none
                    have hnx := nextslicecap_le (need := len + ys.length) (old := c.caps.getD b 0) (by omega)
                    have hfit : Builtin.nextslicecap (len + ys.length) (c.caps.getD b 0) * ie.bytes ≤ 281474976710656 := by
                      rw [hbe]
                      have := Nat.mul_le_mul_right te.bytes hnx
                      have e1 : 2 * (len + ys.length) * te.bytes = 2 * ((len + ys.length) * te.bytes) := by rw [Nat.mul_assoc]
                      omega
                    have hat : At c.w (c.bs.getD b 0) 0 a := by
                      have := (own_at hr hh).split.1
                      rw [e1] at this
                      exact this.split.1
                    have hcell : ∀ j u, a[j]? = some u → c.w.drew.cell? ((⟨c.bs.getD b 0, 0, none⟩ : Addr).add j) = some u := fun j u hj => by rw [add_zero_addr]; simpa using hat j u hj
                    have hrun := run_append_grow_src (P := P) c.w ty tx rt e' ie ze hd hie hze (some ⟨c.bs.getD b 0, 0, none⟩) len (c.caps.getD b 0) a (run_firstCells_some c.w.drew _ _ _ _ _ a (by rw [hal, hsz]) hcell) vx ys.length news hsr (by omega) (by omega) hfit
                    rw [toArr] at hrun
                    have hge := grownCap_ge c.w (len + ys.length) (c.caps.getD b 0) e'
                    have hcm := grownCap_le_maxLen c.w (len + ys.length) (c.caps.getD b 0) e' (by simp only [maxLen]; omega)
                    have hm : Moves c (c.w.drew.alloc (.cells (a ++ news ++ (Builtin.zeroCells ze.cells (grownCap c.w (len + ys.length) (c.caps.getD b 0) e' - (len + ys.length))).toList).toArray e')) :=
                      ⟨(below_drew c.w _).alloc (Nat.le_refl _) _, by simp⟩
                    have hext := move_ext (cap := grownCap c.w (len + ys.length) (c.caps.getD b 0) e') (xs' := xs.take len ++ ys) (t' := τ) hr hb hm
                    have hrel := move_rel (cap := grownCap c.w (len + ys.length) (c.caps.getD b 0) e') (xs' := xs.take len ++ ys) (t' := τ) hr hb hm (by
                      have hcp : (c.caps.set b (grownCap c.w (len + ys.length) (c.caps.getD b 0) e')).getD b 0 = grownCap c.w (len + ys.length) (c.caps.getD b 0) e' := getD_set_eq (by rw [hr.lenc]; exact hblt)
                      refine ⟨a ++ news, (Builtin.zeroCells ze.cells (grownCap c.w (len + ys.length) (c.caps.getD b 0) e' - (len + ys.length))).toList, ?_, ?_, hpos, ?_, ?_, ?_⟩
                      · simp only [Cx.move]
                        rw [getD_set_eq (by rw [hr.len]; exact hblt)]
                        exact heap_alloc_new _ _
                      · exact (Chain.append _ _ _).2 ⟨a, news, rfl, Chain.mono (fun x cs => DC.keeps hext.keeps τ x cs) _ _ hca, Chain.mono (fun x cs => DC.keeps hext.keeps τ x cs) _ _ hch⟩
                      · simp only [Cx.move]
                        rw [hcp, List.length_append, List.length_append, hal, hnl, length_zeroCells, hzc, ← Nat.add_mul, ← Nat.add_mul]
                        congr 1
                        omega
                      · simp only [Cx.move]; rw [hcp, hzl]; exact hge
                      · simp only [Cx.move]; rw [hcp]; exact hcm)
                    refine ⟨_, _, _, _, he, ?_, ⟨hrel, hext, rfl⟩, hrun⟩
                    refine VR_row (e := e') (τ := τ) (zs := xs.take len ++ ys) (by simp [Cx.move, hblt]) (getD_set_eq (by rw [hr.len]; exact hblt)) (getD_set_eq (by rw [hr.lenc]; exact hblt)) (by omega) (by rw [hzl]; exact hge)
                · exact absurd he (by simp)
            · exact absurd he (by simp)
          · exact absurd he (by simp)
        · exact absurd he (by simp)
    · exact absurd he (by simp)

end
end Go.Fy

set_option linter.unusedVariables false
namespace Go.Fy
open Go.RowKit

section
variable {P : Program} {E : Env} {t : Nat} {ti : TI} {c : Cx} {ρ : Type} {r : ρ} {K : PV → Option ρ}

theorem kind_desc (hE : EnvOk P E) {t : Nat} (h : kindOf E t ≠ .other) : ∃ ti d, E.tt t = some ti ∧ TOk P E t ti ∧ P.underlying t = some d ∧ TkOk ti.shs (kindOf E t) d := by
  unfold kindOf at h ⊢
  cases ht : E.tt t with
  | none => simp [ht] at h
  | some ti =>
    have hT := hE.tt t ti ht
    obtain ⟨d, hd, hk⟩ := hT.und
    exact ⟨ti, d, rfl, hT, hd, hk⟩

theorem convA_sound (hE : EnvOk P E) (w : World) {src dst : Nat} {x : PV} {vx : Value} (hx : VR c x vx) (he : convA E src dst x K = some r) :
    ∃ v val, K v = some r ∧ VR c v val ∧ (convert src dst vx).run P w = .ok val w := by
  unfold convA at he
  split at he
  · rename_i k1 k k2 n h1 h2
    obtain ⟨_, d1, _, _, hd1, hk1⟩ := kind_desc hE (t := src) (by rw [h1]; simp)
    obtain ⟨_, d2, _, _, hd2, hk2⟩ := kind_desc hE (t := dst) (by rw [h2]; simp)
    rw [h1] at hk1
    rw [h2] at hk2
    simp only [TkOk] at hk1 hk2
    subst hk1 hk2
    rw [VR] at hx
    refine ⟨_, .int k (k.wrap n), he, by rw [VR]; exact dInt k _, ?_⟩
    rw [dInt_inv hx]
    simp [convert, run_underlying hd1, run_underlying hd2, Conv.intToInt]
  · rename_i s h1 h2
    obtain ⟨_, d1, _, _, hd1, hk1⟩ := kind_desc hE (t := src) (by rw [h1]; simp)
    obtain ⟨_, d2, _, _, hd2, hk2⟩ := kind_desc hE (t := dst) (by rw [h2]; simp)
    rw [h1] at hk1
    rw [h2] at hk2
    simp only [TkOk] at hk1 hk2
    subst hk1 hk2
    refine ⟨_, vx, he, hx, ?_⟩
    rw [VR] at hx
    rw [dStr_inv hx]
    simp [convert, run_underlying hd1, run_underlying hd2]
  · rename_i k1 k n h1 h2
    obtain ⟨_, d1, _, _, hd1, hk1⟩ := kind_desc hE (t := src) (by rw [h1]; simp)
    obtain ⟨_, d2, _, _, hd2, hk2⟩ := kind_desc hE (t := dst) (by rw [h2]; simp)
    rw [h1] at hk1
    rw [h2] at hk2
    simp only [TkOk] at hk1 hk2
    subst hk1 hk2
    rw [VR] at hx
    refine ⟨_, .string (Utf8.encode n), he, dV ⟨[.string (Utf8.encode n)], by show [Value.string (Utf8.encode n)] = [Value.string ⟨(Utf8.encode n).data.toList.toArray⟩]; rw [Array.toArray_toList], rfl⟩, ?_⟩
    rw [dInt_inv hx]
    simp [convert, run_underlying hd1, run_underlying hd2, Conv.intToString]
  · exact absurd he (by simp)

theorem zeroA_sound (h : TOk P E t ti) {z : PV} (hz : zeroA ti = some z) (w : World) : ∃ v, VR c z v ∧ (zeroValue t).run P w = .ok v w := by
  unfold zeroA at hz
  split at hz
  · rename_i hw
    obtain ⟨i, v, hi, hs, hby, hzz, hv, hu, _⟩ := h.inf
    have := valOf_sound h (fun u hu => List.all_eq_true.1 hw u hu) hz (hu c)
    rw [← hv] at this
    exact ⟨v, this, by simp [zeroValue, typeInfo, hi, hzz]⟩
  · exact absurd hz (by simp)

theorem tu2 {v : PV} {x : Value} (h : VR c v x) (b : Bool) : VR c (.tu [v, .d .bool b]) (.tuple #[x, .bool b]) := by
  rw [VR]
  refine ⟨[x, .bool b], rfl, ?_⟩
  rw [VRs]
  refine ⟨x, _, rfl, h, ?_⟩
  rw [VRs]
  refine ⟨.bool b, _, rfl, dV (dBool b), ?_⟩
  rw [VRs]

theorem assertA_sound (hE : EnvOk P E) (w : World) {xt asserted : Nat} {ok : Bool} {x : PV} {vx : Value} (hx : VR c x vx) (he : assertA E asserted ok x K = some r) :
    ∃ v val, K v = some r ∧ VR c v val ∧ (Instr.typeAssert vx xt asserted ok).run P w = .ok val w := by
  unfold assertA at he
  split at he
  · rename_i ti hti
    have h := hE.tt asserted ti hti
    obtain ⟨d, hd, hk⟩ := h.und
    have hno := h.other
    have hni : ti.kind ≠ .ifc → ∀ m, d ≠ .interface m := by
      intro hne m hm
      subst hm
      cases hkk : ti.kind <;> rw [hkk] at hk hno hne <;> simp_all [TkOk]
    split at he
    · exact absurd he (by simp)
    · rename_i t v hne
      have hni := hni (fun h => by simp_all)
      rw [VR] at hx
      obtain ⟨u, rfl, hu⟩ := hx
      split at he
      · rename_i hta
        subst hta
        cases ok with
        | true =>
          refine ⟨_, _, he, tu2 hu true, ?_⟩
          cases d <;> first | exact absurd rfl (hni _) | simp [Instr.typeAssert, run_underlying hd]
        | false =>
          refine ⟨_, u, he, hu, ?_⟩
          cases d <;> first | exact absurd rfl (hni _) | simp [Instr.typeAssert, run_underlying hd]
      · rename_i hta
        obtain ⟨hok, he⟩ := bif_some he
        subst hok
        split at he
        · rename_i z hz
          obtain ⟨vz, h1, h2⟩ := zeroA_sound (c := c) h hz w
          refine ⟨_, _, he, tu2 h1 false, ?_⟩
          cases d <;> first | exact absurd rfl (hni _) | simp [Instr.typeAssert, run_underlying hd, hta, h2]
        · exact absurd he (by simp)
    · rename_i hne
      have hni := hni (fun h => by simp_all)
      rw [VR] at hx
      subst hx
      obtain ⟨hok, he⟩ := bif_some he
      subst hok
      split at he
      · rename_i z hz
        obtain ⟨vz, h1, h2⟩ := zeroA_sound (c := c) h hz w
        refine ⟨_, _, he, tu2 h1 false, ?_⟩
        cases d <;> first | exact absurd rfl (hni _) | simp [Instr.typeAssert, run_underlying hd, h2]
      · exact absurd he (by simp)
    · exact absurd he (by simp)
  · exact absurd he (by simp)

end
end Go.Fy

set_option linter.unusedVariables false
namespace Go.Fy
open Go.RowKit

/-- The wide fence, in an activation or in a round. -/
def W (ro : Option Nat) : Fence := { Fence.wide with round := ro }
theorem callsW {ro : Option Nat} {n : Nat} {P : Program} {f : FuncId} {args : Array Value} {w : World} {R : Ending → World → Prop} : CallsIn (W ro) n P f args w R ↔ Calls P f args w R :=
  callsIn_wide (n := n)

def OutVR (c : Cx) : OutV → Ending → Prop
  | .ret v, e => ∃ x, e = .returned x ∧ VR c v x
  | .pan v, e => ∃ x, e = .panicked [{ v := x, recovered := false }] ∧ VR c v x

/-- A datum without slices leans on no world. -/
theorem DC.anyw {w w' : World} {ok ok' : Nat → Prop} : ∀ (t : Ty) (x : t.den) (cs : List Value), noSl t = true → DC w ok t x cs → DC w' ok' t x cs
  | .bool, _, _, _, h => h
  | .int _, _, _, _, h => h
  | .str, _, _, _, h => h
  | .sl t, xs, _, hn, _ => by simp [noSl] at hn
  | .arr n t, xs, cs, hn, ⟨hl, hc⟩ => ⟨hl, Chain.mono (fun x cs => DC.anyw t x cs (by simpa [noSl] using hn)) xs cs hc⟩
  | .nil, _, _, _, h => h
  | .cons a b, x, _, hn, ⟨c, d, e, hc, hd⟩ => ⟨c, d, e, DC.anyw a x.1 c (by simp only [noSl, Bool.and_eq_true] at hn; exact hn.1) hc, DC.anyw b x.2 d (by simp only [noSl, Bool.and_eq_true] at hn; exact hn.2) hd⟩

theorem DV.anyw {w w' : World} {ok ok' : Nat → Prop} {t : Ty} {x : t.den} {v : Value} (hn : noSl t = true) (h : DV w ok t x v) : DV w' ok' t x v := by
  obtain ⟨cs, h, e⟩ := h
  exact ⟨cs, DC.anyw t x cs hn h, e⟩

theorem DVs.anyw {w w' : World} {ok ok' : Nat → Prop} : ∀ (ts : List Ty) (x : DenL ts) (l : List Value), ts.all noSl = true → OutR.DVs w ok ts x l → OutR.DVs w' ok' ts x l
  | [], _, _, _, h => h
  | t :: ts, x, _, hn, ⟨v, r, e, h1, h2⟩ => by
    simp only [List.all_cons, Bool.and_eq_true] at hn
    exact ⟨v, r, e, h1.anyw hn.1, DVs.anyw ts x.2 r hn.2 h2⟩

theorem DVs.keeps {w w' : World} {ok ok' : Nat → Prop} (k : Keeps w ok w' ok') : ∀ (ts : List Ty) (x : DenL ts) (l : List Value), OutR.DVs w ok ts x l → OutR.DVs w' ok' ts x l
  | [], _, _, h => h
  | t :: ts, x, _, ⟨v, r, e, h1, h2⟩ => ⟨v, r, e, h1.keeps k, DVs.keeps k ts x.2 r h2⟩

section
variable {P : Program} {E : Env} {t : Nat} {ti : TI} {c : Cx} {ρ : Type} {r : ρ}

theorem ofRes_VRs : ∀ (ts : List Ty) (x : DenL ts) (l : List Value), OutR.DVs c.w c.ok ts x l → VRs c (ofRes ts x) l
  | [], _, l, h => by rw [show l = [] from h]; rw [ofRes, VRs]
  | t :: ts, x, _, ⟨v, r, e, h1, h2⟩ => by
    subst e
    rw [ofRes, VRs]
    exact ⟨v, r, rfl, dV h1, ofRes_VRs ts x.2 r h2⟩

theorem one_VR {ts : List Ty} {x : DenL ts} {e : Ending} (h : OutR c.w c.ok (.ret x : Out ts) e) : OutVR c (.ret (one (ofRes ts x))) e := by
  obtain ⟨v, rfl, h⟩ := h
  refine ⟨v, rfl, ?_⟩
  match ts, x, h with
  | [], x, ⟨l, e, h⟩ => rw [ofRes, one, VR]; exact ⟨l, e, ofRes_VRs [] x l h⟩; simp
  | [t], x, h => exact dV h
  | t :: u :: ts, x, ⟨l, e, h⟩ =>
    have := ofRes_VRs (c := c) (t :: u :: ts) x l h
    rw [ofRes, ofRes] at this ⊢
    rw [one, VR]
    · exact ⟨l, e, this⟩
    · simp

/-! ### What is handed over -/
/-- A datum out of a value, its blocks told: what is ok, or a row's own block among the live. -/
theorem toD_sound {w0 : World} (hr : Rel w0 c) {τ : Ty} {p : PV} {v : Value} {x : τ.den} (h : toD c.H τ p = some x) (hv : VR c p v) (ok' : Nat → Prop) (h1 : ∀ b, c.ok b → ok' b)
    (h2 : ∀ i, live c.H i → (isAr p = false → ∃ ver off len, p = .ro i ver off len) → ok' (c.bs.getD i 0)) : DV c.w ok' τ x v := by
  have k : Keeps c.w c.ok c.w ok' := ⟨h1, fun _ _ => rfl⟩
  unfold toD at h
  split at h
  · obtain ⟨e, hx⟩ := cast?_some h
    subst e hx
    rw [VR] at hv
    exact hv.keeps k
  · rw [VR] at hv
    subst hv
    cases τ with
    | sl t' =>
      simp only [nilOf, Option.some.injEq] at h
      subst h
      exact ⟨_, nsl_DC, rfl⟩
    | _ => exact absurd h (by simp [nilOf])
  · split at h
    · rename_i t' xs hz
      obtain ⟨e, hx⟩ := cast?_some h
      subst e
      simp only at hx
      subst hx
      obtain ⟨a, cap, news, rfl, hcap, hc, ha⟩ := rowOf_sound hr hv hz
      refine ⟨_, ⟨a, cap, rfl, hcap, fun hne => ?_⟩, rfl⟩
      obtain ⟨b, o, e, hat, hb⟩ := ha hne
      refine ⟨b, o, news, e, ?_, Chain.mono (fun x cs => DC.keeps k t' x cs) _ _ hc, hat⟩
      rcases hb with hb | ⟨i, hl, rfl, hi⟩
      · exact h1 b hb
      · exact h2 i hl hi
    · exact absurd h (by simp)

theorem toDs_sound {w0 : World} (hr : Rel w0 c) (ok' : Nat → Prop) (h1 : ∀ b, c.ok b → ok' b) : ∀ (ts : List Ty) (ps : List PV) (vs : List Value) (xs : DenL ts), toDs c.H ts ps = some xs → VRs c ps vs →
    (∀ p ∈ ps, ∀ i, live c.H i → (isAr p = false → ∃ ver off len, p = .ro i ver off len) → ok' (c.bs.getD i 0)) → OutR.DVs c.w ok' ts xs vs
  | [], [], vs, xs, _, hv, _ => by rw [VRs] at hv; exact hv
  | [], p :: ps, vs, xs, h, _, _ => by simp [toDs] at h
  | t :: ts, [], vs, xs, h, _, _ => by simp [toDs] at h
  | t :: ts, p :: ps, vs, xs, h, hv, h2 => by
    rw [VRs] at hv
    obtain ⟨v, r, rfl, hv1, hv2⟩ := hv
    unfold toDs at h
    split at h
    · rename_i x hx
      split at h
      · rename_i ys hys
        injection h with h
        subst h
        exact ⟨v, r, rfl, toD_sound hr hx hv1 ok' h1 (fun i hl hi => h2 p (by simp) i hl hi), toDs_sound hr ok' h1 ts ps r ys hys hv2 (fun q hq => h2 q (by simp [hq]))⟩
      · exact absurd h (by simp)
    · exact absurd h (by simp)

/-- Rows let go. -/
theorem freeze_sound {w0 : World} : ∀ (ps : List PV) (c : Cx), Rel w0 c → ∃ c', Mv w0 c c' ∧ c'.H = (freeze c.H ps).1 ∧ c'.w = c.w ∧ c'.bs = c.bs ∧
    ∀ b ver off len, .ro b ver off len ∈ ps → live c.H b → c'.ok (c.bs.getD b 0)
  | [], c, hr => ⟨c, Mv.refl hr, rfl, rfl, rfl, by simp⟩
  | p :: ps, c, hr => by
    by_cases hp : ∃ b ver off len, p = .ro b ver off len
    · obtain ⟨b, ver, off, len, rfl⟩ := hp
      have h1 : Mv w0 c (c.kill b) := ⟨kill_rel hr b, kill_ext c b, rfl⟩
      obtain ⟨c', h2, e1, e2, e3, h3⟩ := freeze_sound ps (c.kill b) h1.rel
      refine ⟨c', h1.trans h2, by rw [freeze]; exact e1, e2, e3, fun b' ver' off' len' hm hl => ?_⟩
      have hkb : live c.H b → c'.ok (c.bs.getD b 0) := by
        intro hl
        refine h2.ext.keeps.okk _ (.inr ?_)
        have hg := hr.rng b hl
        refine ⟨hg.1, hg.2, fun i hi => ?_⟩
        obtain ⟨hi1, hi2⟩ := live_kill hi
        intro he
        exact hi2 (hr.inj i b hi1 hl he).symm
      rcases List.mem_cons.1 hm with he | hm
      · injection he with he
        subst he
        exact hkb hl
      · by_cases hbb : b = b'
        · subst hbb; exact hkb hl
        · refine h3 b' ver' off' len' hm ?_
          obtain ⟨y, hy, hd⟩ := hl
          exact ⟨y, by simp only [Cx.kill]; rw [List.getElem?_set_ne hbb]; exact hy, hd⟩
    · obtain ⟨c', h2, e1, e2, e3, h3⟩ := freeze_sound ps c hr
      refine ⟨c', h2, ?_, e2, e3, fun b' ver' off' len' hm hl => ?_⟩
      · rw [e1, freeze]
        intro b ver off len he
        exact hp ⟨b, ver, off, len, he⟩
      · rcases List.mem_cons.1 hm with he | hm
        · exact absurd ⟨_, _, _, _, he.symm⟩ hp
        · exact h3 b' ver' off' len' hm hl

theorem ok_lt {w0 : World} (hr : Rel w0 c) {b : Nat} (h : c.ok b) : b < c.w.heap.size := by
  rcases h with h | h
  · have := hr.okl b h
    have := hr.lo
    have := hr.below.size
    omega
  · exact h.2.1

theorem on_ok {w0 : World} (hr : Rel w0 c) {w' : World} (hb : Below c.w.heap.size c.w w') {b : Nat} (h : c.ok b ∨ (c.w.heap.size ≤ b ∧ b < w'.heap.size)) : (c.on w').ok b := by
  rcases h with h | ⟨h1, h2⟩
  · exact (on_ext hr hb).keeps.okk b h
  · refine .inr ⟨?_, h2, fun i hi => ?_⟩
    · have := hr.lo
      have := hr.below.size
      show c.lo ≤ b
      omega
    · have := (hr.rng i hi).2
      show c.bs.getD i 0 ≠ b
      omega

theorem callCon_sound (hE : EnvOk P E) {w0 : World} (hr : Rel w0 c) (hg : GOk E c.w c.ok) {f : Nat} {k : Con} (hk : E.con f = some k) {as : List PV} {vs : List Value} (ha : VRs c as vs) {K : KO ρ}
    (he : callCon k as c.H K = some r) {R : Ending → World → Prop} (hR : ∀ c' out e lg, Mv w0 c c' → OutVR c' out e → K out c'.H lg = some r → R e c'.w) : Does P f vs.toArray c.w R := by
  unfold callCon at he
  split at he
  · exact absurd he (by simp)
  · rename_i xs hxs
    cases hn : k.res.all noSl with
    | true =>
      simp only [hn, cond_true] at he
      have hd := toDs_sound hr (fun b => b < c.w.heap.size) (fun b hb => ok_lt hr hb) k.args as vs xs hxs ha (fun p _ i hl _ => (hr.rng i hl).2)
      have hg' : GOk E c.w (fun b => b < c.w.heap.size) := hg.keeps ⟨fun b hb => ok_lt hr hb, fun _ _ => rfl⟩
      split at he
      · exact absurd he (by simp)
      · rename_i x hx
        refine ((hE.con f k hk) c.w _ xs vs _ (fun b hb => hb) hg' hd hx).mono fun e w' ⟨ho, hb⟩ => ?_
        have hm := on_mv hr hb
        refine hR (c.on w') _ e _ hm (one_VR ?_) he
        obtain ⟨v, e1, ho⟩ := ho
        refine ⟨v, e1, ?_⟩
        revert ho
        match hkr : k.res, x with
        | [], x => intro ⟨l, e2, h⟩; exact ⟨l, e2, h⟩
        | [t], x => intro h; rw [hkr] at hn; exact h.anyw (by simpa using hn)
        | t :: u :: ts, x => intro ⟨l, e2, h⟩; rw [hkr] at hn; exact ⟨l, e2, DVs.anyw _ x l hn h⟩
      · rename_i t τ x hx
        obtain ⟨hτ, he⟩ := bif_some he
        refine ((hE.con f k hk) c.w _ xs vs _ (fun b hb => hb) hg' hd hx).mono fun e w' ⟨ho, hb⟩ => ?_
        have hm := on_mv hr hb
        refine hR (c.on w') _ e _ hm ?_ he
        obtain ⟨v, e1, ho⟩ := ho
        refine ⟨_, e1, ?_⟩
        rw [VR]
        exact ⟨v, rfl, dV (ho.anyw hτ)⟩
    | false =>
      simp only [hn, cond_false] at he
      cases har : as.any isAr with
      | true => simp [har] at he
      | false =>
        simp only [har, cond_false] at he
        obtain ⟨c1, hm1, e1, e2, e3, hro⟩ := freeze_sound as c hr
        have hd := toDs_sound hr c1.ok hm1.ext.keeps.okk k.args as vs xs hxs ha (fun p hp i hl hi => by
          have hna : isAr p = false := by
            have := List.any_eq_false.1 har p hp
            simpa using this
          obtain ⟨ver, off, len, rfl⟩ := hi hna
          exact hro i ver off len hp hl)
        rw [← e2] at hd
        have hg' : GOk E c1.w c1.ok := hg.keeps hm1.ext.keeps
        have fin : ∀ (o : Out k.res), k.fn xs = some o → Does P f vs.toArray c.w fun e w' => OutR w' (fun b => c1.ok b ∨ (c1.w.heap.size ≤ b ∧ b < w'.heap.size)) o e ∧ Below c1.w.heap.size c1.w w' := by
          intro o ho
          have := (hE.con f k hk) c1.w c1.ok xs vs o (fun b hb => ok_lt hm1.rel hb) hg' hd ho
          rw [e2] at this ⊢
          exact this
        split at he
        · exact absurd he (by simp)
        · rename_i x hx
          refine (fin _ hx).mono fun e w' ⟨ho, hb⟩ => ?_
          have hm := on_mv hm1.rel hb
          have kk : Keeps w' (fun b => c1.ok b ∨ (c1.w.heap.size ≤ b ∧ b < w'.heap.size)) (c1.on w').w (c1.on w').ok := ⟨fun b hb' => on_ok hm1.rel hb hb', fun _ _ => rfl⟩
          refine hR (c1.on w') _ e _ (hm1.trans hm) (one_VR ?_) (by show K _ c1.H _ = some r; rw [e1]; exact he)
          obtain ⟨v, e4, ho⟩ := ho
          refine ⟨v, e4, ?_⟩
          revert ho
          match k.res, x with
          | [], x => intro ⟨l, e2, h⟩; exact ⟨l, e2, h⟩
          | [t], x => intro h; exact h.keeps kk
          | t :: u :: ts, x => intro ⟨l, e2, h⟩; exact ⟨l, e2, DVs.keeps kk _ x l h⟩
        · rename_i t τ x hx
          refine (fin _ hx).mono fun e w' ⟨ho, hb⟩ => ?_
          have hm := on_mv hm1.rel hb
          have kk : Keeps w' (fun b => c1.ok b ∨ (c1.w.heap.size ≤ b ∧ b < w'.heap.size)) (c1.on w').w (c1.on w').ok := ⟨fun b hb' => on_ok hm1.rel hb hb', fun _ _ => rfl⟩
          refine hR (c1.on w') _ e _ (hm1.trans hm) ?_ (by show K _ c1.H _ = some r; rw [e1]; exact he)
          obtain ⟨v, e4, ho⟩ := ho
          refine ⟨_, e4, ?_⟩
          rw [VR]
          exact ⟨v, rfl, dV (ho.keeps kk)⟩

end
end Go.Fy

set_option linter.unusedVariables false
namespace Go.Fy
open Go.RowKit

/-- What an oracle tells of calls comes to pass. -/
structure OrcOk {ρ : Type} (P : Program) (w0 : World) (ok0 : Nat → Prop) (orc : Orc ρ) : Prop where
  call : ∀ (c : Cx) (f : Nat) (as : List PV) (vs : List Value) (K : KO ρ) (r : ρ) (R : Ending → World → Prop), Rel w0 c → c.ok0 = ok0 → orc.call f as c.H K = some r → VRs c as vs →
    (∀ c' out e lg, Mv w0 c c' → OutVR c' out e → K out c'.H lg = some r → R e c'.w) → (∃ fn, P.funcs[f]? = some fn ∧ fn.name ≠ "runtime.NumGoroutine" ∧ fn.body.isSome = true) ∧ Calls P f vs.toArray c.w R
  round : ∀ (c : Cx) (l : Nat) (as : List PV) (vs : List Value) (K : KO ρ) (r : ρ) (R : Ending → World → Prop), Rel w0 c → c.ok0 = ok0 → orc.round l as c.H K = some r → VRs c as vs →
    (∀ c' out e lg, Mv w0 c c' → OutVR c' out e → K out c'.H lg = some r → R e c'.w) →
    (∃ x, c.H[l]? = some (.loop x)) ∧ ∃ l' f tmps assign body w', (Instr.yield (c.bs.getD l 0) vs.toArray).run P c.w = .ok (.round l' f tmps assign body) w' ∧ RoundIn Fence.wide 0 P l' f tmps assign body w' R

section
variable {P : Program} {E : Env} {t : Nat} {ti : TI} {c : Cx} {ρ : Type} {r : ρ} {ro : Option Nat} {n : Nat} {next : Act → World → Prop} {Q : Exit → Act → World → Prop} {o : Oper} {a : Act} {w w' : World}

theorem roundW {l f : Nat} {tmps : Array Value} {assign body : Code} {R : Ending → World → Prop} (h : RoundIn Fence.wide 0 P l f tmps assign body w R) : RoundIn (W ro) n P l f tmps assign body w R :=
  ⟨trivial, fun c cs _ => h.2 c cs (room_wide _)⟩

theorem wpIn_of {x : Result Next} (hd : ∀ c, o.op ≠ .defer c) (hrun : (execOp a.eval o).run P w = x) (h : o.uponIn (W ro) n P a next Q x) : o.wpIn (W ro) n P a w next Q :=
  ⟨fun _ _ => trivial, by rw [Oper.semAt_eq _ _ _ hd, hrun]; exact h⟩

theorem VRs_append : ∀ (ps qs : List PV) (l m : List Value), VRs c ps l → VRs c qs m → VRs c (ps ++ qs) (l ++ m)
  | [], qs, l, m, h, k => by rw [VRs] at h; subst h; exact k
  | p :: ps, qs, l, m, h, k => by
    rw [VRs] at h
    obtain ⟨v, r, rfl, h1, h2⟩ := h
    rw [List.cons_append, List.cons_append, VRs]
    exact ⟨v, _, rfl, h1, VRs_append ps qs r m h2 k⟩

theorem opds_sound (hg : GOk E c.w c.ok) {ts : List PV} {a : Act} (ht : TS c ts a.tmps) : ∀ xs : List Operand, VRs c (xs.map (opd E ts)) (xs.map a.eval)
  | [] => by rw [List.map_nil, List.map_nil, VRs]
  | x :: xs => by
    rw [List.map_cons, List.map_cons, VRs]
    exact ⟨_, _, rfl, opd_sound hg ht x, opds_sound hg ht xs⟩

theorem parts_sound (hg : GOk E c.w c.ok) {ts : List PV} {a : Act} (ht : TS c ts a.tmps) (ps : Array (Nat × Operand)) : PRs c (parts E ts ps) (ps.map fun (i, x) => (i, a.eval x)).toList := by
  unfold parts
  rw [Array.toList_map]
  generalize ps.toList = l
  induction l with
  | nil => rfl
  | cons p l ih => exact ⟨_, _, rfl, opd_sound hg ht p.2, ih⟩

theorem bd_sound (hg : GOk E c.w c.ok) {ts : List PV} {a : Act} (ht : TS c ts a.tmps) {x : Option Operand} {i : Option Int} (h : (match x with | none => some none | some y => (pvInt (opd E ts y)).map some) = some i) : Bd i (x.map a.eval) := by
  cases x with
  | none => injection h with h; subst h; exact trivial
  | some y =>
    simp only [Option.map_eq_some_iff] at h
    obtain ⟨k, hk, rfl⟩ := h
    exact pvInt_sound (opd_sound hg ht y) hk

/-- What comes after a call. -/
def UpR (next : Act → World → Prop) (Q : Exit → Act → World → Prop) (o : Oper) (a : Act) : Ending → World → Prop
  | .returned v, w => next (a.put o.dst v) w
  | .panicked chain, w => Q (.panic chain) a w
  | .outgrown, _ => LetsOut Q

/-- A call of a value. -/
theorem callA_sound (hE : EnvOk P E) {w0 : World} {ok0 : Nat → Prop} {orc : Orc ρ} (hO : OrcOk P w0 ok0 orc) (hr : Rel w0 c) (h0 : c.ok0 = ok0) (hg : GOk E c.w c.ok) {f : PV} {as : List PV} {fv : Value} {vs : Array Value}
    {K KP : KV ρ} (he : callA E orc f as c.H K KP = some r) (hf : VR c f fv) (ha : VRs c as vs.toList)
    (hK : ∀ c' v val lg, Mv w0 c c' → VR c' v val → K v c'.H lg = some r → next (a.put o.dst val) c'.w)
    (hP : ∀ c' v val lg, Mv w0 c c' → VR c' v val → KP v c'.H lg = some r → Q (.panic [{ v := val, recovered := false }]) a c'.w) :
    o.uponIn (W ro) n P a next Q ((Deferred.ofValue fv vs >>= fun d => invoke d.target d.args).run P c.w) := by
  have hR : ∀ (ko : KO ρ), ko = (fun out h' lg => match out with | .ret v => K v h' lg | .pan v => KP v h' lg) → ∀ c' out e lg, Mv w0 c c' → OutVR c' out e → ko out c'.H lg = some r →
      UpR next Q o a e c'.w := by
    intro ko hko c' out e lg hm hov hk
    subst hko
    cases out with
    | ret v => obtain ⟨x, rfl, hv⟩ := hov; exact hK c' v x lg hm hv hk
    | pan v => obtain ⟨x, rfl, hv⟩ := hov; exact hP c' v x lg hm hv hk
  have fin : ∀ (g : Nat) (l : List Value), Does P g (vs.toList ++ l).toArray c.w (UpR next Q o a) → o.uponIn (W ro) n P a next Q ((Deferred.ofValue (.func (.func g) #[] l.toArray) vs >>= fun d => invoke d.target d.args).run P c.w) := by
    intro g l hd
    have e1 : (vs.toList ++ l).toArray = vs ++ l.toArray := by apply Array.ext'; simp
    have e2 : (Deferred.ofValue (.func (.func g) #[] l.toArray) vs >>= fun d => invoke d.target d.args).run P c.w = (callFunc g (vs.toList ++ l).toArray).run P c.w := by
      rw [e1]
      simp [Deferred.ofValue, invoke]
    rw [e2]
    rcases hd with ⟨⟨fn, h1, h2, h3⟩, h4⟩ | ⟨v, w', h1, h2⟩
    · obtain ⟨b, hb⟩ := Option.isSome_iff_exists.1 h3
      have hrun : (callFunc g (vs.toList ++ l).toArray).run P c.w = .ok (.enter g (vs.toList ++ l).toArray) c.w := by
        simp [callFunc, h1, h2, hb]
      rw [hrun, Oper.uponIn_enter]
      exact ⟨fun h => by simp [W, Fence.wide] at h, callsW.2 (h4.mono fun e w h => by cases e <;> exact h)⟩
    · rw [h1]
      exact h2
  unfold callA at he
  split at he
  · rename_i g caps
    rw [VR] at hf
    obtain ⟨l, rfl, hl⟩ := hf
    have hal := VRs_append as caps vs.toList l ha hl
    refine fin g l ?_
    split at he
    · rename_i k hk
      exact callCon_sound hE hr hg hk hal he (hR _ rfl)
    · exact .inl (hO.call c g _ _ _ r _ hr h0 he hal (hR _ rfl))
  · rename_i l
    obtain ⟨⟨x, hx⟩, l', f', tmps, assign, body, w', h1, h2⟩ := hO.round c l _ _ _ r _ hr h0 he ha (hR _ rfl)
    rw [VR] at hf
    have := hf.2.2 x hx
    subst this
    have e2 : (Deferred.ofValue (.func (.yield (c.bs.getD l 0)) #[] #[]) vs >>= fun d => invoke d.target d.args).run P c.w = (Instr.yield (c.bs.getD l 0) vs).run P c.w := by
      simp [Deferred.ofValue, invoke]
    rw [e2, h1, Oper.uponIn_round]
    exact ⟨fun h => by simp [W, Fence.wide] at h, roundW (h2.mono fun e w h => by cases e <;> exact h)⟩
  · exact absurd he (by simp)

end
end Go.Fy

set_option linter.unusedVariables false
namespace Go.Fy
open Go.RowKit

section
variable {P : Program} {E : Env} {t : Nat} {ti : TI} {c : Cx} {ρ : Type} {r : ρ} {ro : Option Nat} {n : Nat} {next : Act → World → Prop} {Q : Exit → Act → World → Prop} {o : Oper} {a : Act}

theorem builtinA_sound (hE : EnvOk P E) {w0 : World} (hr : Rel w0 c) {b : Builtin} {ats : Array Nat} {as : List PV} {vs : Array Value} {cs : Array Bool} {rt : Nat}
    {K KP : KV ρ} (he : builtinA E b ats.toList as c.H K KP = some r) (ha : VRs c as vs.toList)
    (hK : ∀ c' v val lg, Mv w0 c c' → VR c' v val → K v c'.H lg = some r → next (a.put o.dst val) c'.w)
    (hP : ∀ c' v val lg, Mv w0 c c' → VR c' v val → KP v c'.H lg = some r → Q (.panic [{ v := val, recovered := false }]) a c'.w) :
    o.uponIn (W ro) n P a next Q ((builtin b ats rt cs vs).run P c.w) := by
  unfold builtinA at he
  split at he
  · rename_i ty rest x hats
    split at he
    · rename_i ti hti
      split at he
      · rename_i k hk
        rw [VRs] at ha
        obtain ⟨v, l, e1, h1, h2⟩ := ha
        rw [VRs] at h2
        subst h2
        have e2 : vs = #[v] := by rw [← Array.toArray_toList (xs := vs), e1]
        subst e2
        have ha0 : ats[0]? = some ty := by rw [← Array.getElem?_toList, hats]; rfl
        have hrun := lenA_sound hE (hE.tt ty ti hti) ats ha0 rt h1 hk
        simp only [builtin, Sem.run_bind, hrun, Result.andThen_ok, Sem.run_pure]
        exact hK c _ _ _ (Mv.refl hr) (dV (dInt .i64 _)) he
      · exact absurd he (by simp)
    · exact absurd he (by simp)
  · rename_i ty tx s x hats
    rw [VRs] at ha
    obtain ⟨v, l, e1, h1, h2⟩ := ha
    rw [VRs] at h2
    obtain ⟨v2, l2, e2, h3, h4⟩ := h2
    rw [VRs] at h4
    subst h4 e2
    have e2 : vs = #[v, v2] := by rw [← Array.toArray_toList (xs := vs), e1]
    have e3 : ats = #[ty, tx] := by rw [← Array.toArray_toList (xs := ats), hats]
    subst e2 e3
    obtain ⟨c', p, val, lg, k1, k2, k3, k4⟩ := appendA_sound hE hr he h1 h3 rt
    simp only [builtin, Sem.run_bind, k4, Result.andThen_ok, Sem.run_pure]
    exact hK c' p val lg k3 k2 k1
  · rename_i as'
    split at he
    · rename_i v hv
      obtain ⟨x, h1, h2⟩ := minmaxA_sound (c := c) c.w true hv ha ats rt
      have h2' : (Builtin.max_ ats rt vs).run P c.w = .ok x c.w := h2
      simp only [builtin, Sem.run_bind, h2', Result.andThen_ok, Sem.run_pure]
      exact hK c v x _ (Mv.refl hr) h1 he
    · exact absurd he (by simp)
  · rename_i as'
    split at he
    · rename_i v hv
      obtain ⟨x, h1, h2⟩ := minmaxA_sound (c := c) c.w false hv ha ats rt
      have h2' : (Builtin.min_ ats rt vs).run P c.w = .ok x c.w := h2
      simp only [builtin, Sem.run_bind, h2', Result.andThen_ok, Sem.run_pure]
      exact hK c v x _ (Mv.refl hr) h1 he
    · exact absurd he (by simp)
  · rename_i t v
    rw [VRs] at ha
    obtain ⟨x, l, e1, h1, h2⟩ := ha
    rw [VRs] at h2
    subst h2
    have e2 : vs = #[x] := by rw [← Array.toArray_toList (xs := vs), e1]
    subst e2
    have h1' := h1
    rw [VR] at h1
    obtain ⟨u, rfl, hu⟩ := h1
    have hrun : (Instr.panic (.iface t u)).run P c.w = .halt (.panic (.iface t u)) c.w := by simp [Instr.panic]
    have e3 : (#[.iface t u] : Array Value).getD 0 .nilIface = .iface t u := rfl
    simp only [builtin, Sem.run_bind, e3, hrun, Result.andThen]
    exact hP c _ _ _ (Mv.refl hr) h1' he
  · exact absurd he (by simp)

theorem range_sound {w0 : World} (hr : Rel w0 c) {t : Nat} (hd : P.underlying t = some .string) (s : List UInt8) :
    ∃ c' v, (Instr.range t (.string ⟨s.toArray⟩)).run P c.w = .ok v c'.w ∧ Mv w0 c c' ∧ c'.H = c.H ++ [.iter s 0] ∧ VR c' (.it c.H.length) v := by
  have hext := push_ext hr (.stringIter ⟨s.toArray⟩ 0) (.iter s 0) 0
  have hb := push_bs hr (.stringIter ⟨s.toArray⟩ 0) (.iter s 0) 0
  refine ⟨c.push (.stringIter ⟨s.toArray⟩ 0) (.iter s 0) 0, .pointer (some ⟨c.w.heap.size, 0, none⟩), ?_, ⟨push_rel hr _ _ 0 ?_, hext, rfl⟩, rfl, ?_⟩
  · simp [Instr.range, run_underlying hd, Cx.push]
  · show (c.push (.stringIter ⟨s.toArray⟩ 0) (.iter s 0) 0).w.heap[(c.push (.stringIter ⟨s.toArray⟩ 0) (.iter s 0) 0).bs.getD c.H.length 0]? = _
    rw [hb]
    exact heap_alloc_new _ _
  · rw [VR]
    exact ⟨⟨_, rfl⟩, by simp [Cx.push], fun s p _ => by rw [hb]⟩

theorem nextA_sound {w0 : World} (hr : Rel w0 c) {x : PV} {v : Value} (hx : VR c x v) {K : PV → List Blk → List Nat → Option ρ} (he : nextA c.H x K = some r) (ty : Nat) :
    ∃ c' p val lg, K p c'.H lg = some r ∧ VR c' p val ∧ Mv w0 c c' ∧ (Instr.next v true ty).run P c.w = .ok val c'.w := by
  unfold nextA at he
  split at he
  · rename_i b
    split at he
    · rename_i s p hb
      rw [VR] at hx
      have hv := hx.2.2 s p hb
      have hblk : c.w.heap[c.bs.getD b 0]? = some (.stringIter ⟨s.toArray⟩ p) := hr.blk b _ hb
      have hsz : (⟨s.toArray⟩ : ByteArray).size = s.length := by show s.toArray.size = _; simp
      split at he
      · rename_i hp
        have hlt : c.bs.getD b 0 < c.w.heap.size := (hr.rng b ⟨_, hb, by simp⟩).2
        have hlo : c.lo ≤ c.bs.getD b 0 := (hr.rng b ⟨_, hb, by simp⟩).1
        let o : Obj := .stringIter ⟨s.toArray⟩ (p + (decL s p).2)
        have ht : Turns c b (.iter s (p + (decL s p).2)) (c.w.putObj (c.bs.getD b 0) o) :=
          ⟨⟨rfl, rfl, rfl, by simp, fun k hk => World.putObj_heap_other (by omega)⟩, by simp, fun q hq => World.putObj_heap_other hq⟩
        have hg : Goes c (c.turn b (.iter s (p + (decL s p).2)) (c.w.putObj (c.bs.getD b 0) o)) b (.iter s p) (.iter s (p + (decL s p).2)) := rfl
        refine ⟨c.turn b (.iter s (p + (decL s p).2)) (c.w.putObj (c.bs.getD b 0) o), _, .tuple #[.bool true, .int .i64 p, .int .i32 (decL s p).1], _, he, ?_, ⟨turn_rel hr hb (by simp) (by simp) ht hg ?_, turn_ext hr hb (by simp) (by simp) ht hg, rfl⟩, ?_⟩
        · rw [VR]
          refine ⟨[.bool true, .int .i64 p, .int .i32 (decL s p).1], rfl, ?_⟩
          rw [VRs]
          refine ⟨_, _, rfl, dV (dBool true), ?_⟩
          rw [VRs]
          refine ⟨_, _, rfl, dV (dInt .i64 _), ?_⟩
          rw [VRs]
          refine ⟨_, _, rfl, dV (dInt .i32 _), ?_⟩
          rw [VRs]
        · exact World.putObj_heap_same hlt
        · rw [hv]
          simp only [Instr.next, getObj, setObj, Sem.run_bind, Sem.run, hblk, Result.andThen, hsz, hp, if_true, o, decL]
          simp [goInt, Sem.run, Cx.turn, World.putObj, hblk]
      · rename_i hp
        refine ⟨c, _, .tuple #[.bool false], _, he, ?_, Mv.refl hr, ?_⟩
        · rw [VR]
          refine ⟨[.bool false], rfl, ?_⟩
          rw [VRs]
          refine ⟨_, _, rfl, dV (dBool false), ?_⟩
          rw [VRs]
        · rw [hv]
          simp only [Instr.next, getObj, Sem.run_bind, Sem.run, hblk, Result.andThen, hsz, hp, if_false]
          rfl
    · exact absurd he (by simp)
  · exact absurd he (by simp)

theorem evOp_sound (hE : EnvOk P E) {w0 : World} {ok0 : Nat → Prop} {orc : Orc ρ} (hO : OrcOk P w0 ok0 orc) (hr : Rel w0 c) (h0 : c.ok0 = ok0) (hg : GOk E c.w c.ok) {ts : List PV} (ht : TS c ts a.tmps)
    {K KP : KV ρ} (he : evOp E orc ts c.H o K KP = some r)
    (hK : ∀ c' v val lg, Mv w0 c c' → VR c' v val → K v c'.H lg = some r → next (a.put o.dst val) c'.w)
    (hP : ∀ c' v val lg, Mv w0 c c' → VR c' v val → KP v c'.H lg = some r → Q (.panic [{ v := val, recovered := false }]) a c'.w) :
    o.wpIn (W ro) n P a c.w next Q := by
  have ev := fun x => opd_sound hg ht x
  have val : ∀ {v : PV} {x : Value}, (∀ c, o.op ≠ .defer c) → (execOp a.eval o).run P c.w = .ok (.value x) c.w → VR c v x → K v c.H [] = some r → o.wpIn (W ro) n P a c.w next Q :=
    fun hd hrun hv hk => wpIn_of hd hrun (hK c _ _ _ (Mv.refl hr) hv hk)
  have val' : ∀ {c' : Cx} {v : PV} {x : Value} {lg : List Nat}, (∀ c, o.op ≠ .defer c) → (execOp a.eval o).run P c.w = .ok (.value x) c'.w → VR c' v x → Mv w0 c c' → K v c'.H lg = some r → o.wpIn (W ro) n P a c.w next Q :=
    fun hd hrun hv hm hk => wpIn_of hd hrun (hK _ _ _ _ hm hv hk)
  unfold evOp at he
  simp only at he
  split at he
  · rename_i x ho
    exact val (by simp [ho]) (by simp [execOp, ho]) (ev x) he
  · rename_i x ho
    exact val (by simp [ho]) (by simp [execOp, ho]) (ev x) he
  · rename_i x y z ho
    obtain ⟨v, vl, h1, h2, h3⟩ := pickA_sound c.w (ev x) (ev y) (ev z) he
    exact val (by simp [ho]) (by simp only [execOp, ho]; exact h3) h2 h1
  · rename_i t ho
    split at he
    · rename_i ti hti
      split at he
      · rename_i hw
        obtain ⟨c', v, h1, h2, h3, h4⟩ := alloc_sound (hE.tt t ti hti) hr hw
        exact val' (by simp [ho]) (by simp only [execOp, ho, Sem.run_bind, h1, Result.andThen_ok, Sem.run_pure]) h4 h2 (by rw [h3]; exact he)
      · exact absurd he (by simp)
    · exact absurd he (by simp)
  · rename_i t x ho
    split at he
    · rename_i ti hti
      split at he
      · rename_i us hus
        obtain ⟨hk, he⟩ := bif_some he
        obtain ⟨c', v, h1, h2, h3, h4⟩ := box_sound (hE.tt t ti hti) hr hus hk (ev x)
        exact val' (by simp [ho]) (by simp only [execOp, ho, Sem.run_bind, h1, Result.andThen_ok, Sem.run_pure]) h4 h2 (by rw [h3]; exact he)
      · exact absurd he (by simp)
    · exact absurd he (by simp)
  · rename_i t ps ho
    split at he
    · rename_i ti hti
      split at he
      · rename_i v hv
        obtain ⟨x, h1, h2⟩ := buildA_sound hE (hE.tt t ti hti) hv (parts_sound hg ht ps)
        exact val (by simp [ho]) (by simp only [execOp, ho, Sem.run_bind, h2, Result.andThen_ok, Sem.run_pure]) h1 he
      · exact absurd he (by simp)
    · exact absurd he (by simp)
  · rename_i t k ps ho
    obtain ⟨c', p, v, h1, h2, h3, h4⟩ := buildSliceA_sound hE hr he (parts_sound hg ht ps)
    exact val' (by simp [ho]) (by simp only [execOp, ho, Sem.run_bind, h4, Result.andThen_ok, Sem.run_pure]) h2 h3 h1
  · rename_i t x ho
    split at he
    · rename_i ti hti
      obtain ⟨v, vl, h1, h2, h3⟩ := loadA_sound (hE.tt t ti hti) hr (ev x) he
      exact val (by simp [ho]) (by simp only [execOp, ho, Sem.run_bind, h3, Result.andThen_ok, Sem.run_pure]) h2 h1
    · exact absurd he (by simp)
  · rename_i t x y ho
    split at he
    · rename_i ti hti
      split at he
      · rename_i h' b hs
        obtain ⟨c', h1, h2, h3, h4, h5⟩ := storeA_sound (hE.tt t ti hti) hr (ev x) (ev y) hs
        refine wpIn_of (by simp [ho]) (x := .ok .skip c'.w) (by simp only [execOp, ho, Sem.run_bind, h1, Result.andThen_ok, Sem.run_pure]) ?_
        exact hK c' .un undef [b] ⟨h2, h3, h5⟩ (by rw [VR]; trivial) (by rw [h4]; exact he)
      · exact absurd he (by simp)
    · exact absurd he (by simp)
  · rename_i x ho
    have hx := ev x
    split at he
    · rename_i b i hp
      rw [hp] at hx
      have hx' := hx
      rw [VR] at hx'
      obtain ⟨⟨ad, had⟩, _⟩ := hx'
      exact val (by simp [ho]) (by simp only [execOp, ho, had]; rfl) hx he
    · rename_i b i v j q hp
      rw [hp] at hx
      have hx' := hx
      rw [VR] at hx'
      obtain ⟨⟨ad, had⟩, _⟩ := hx'
      exact val (by simp [ho]) (by simp only [execOp, ho, had]; rfl) hx he
    · rename_i τ y q hp
      rw [hp] at hx
      have hx' := hx
      rw [VR] at hx'
      obtain ⟨_, _, _, had, _⟩ := hx'
      exact val (by simp [ho]) (by simp only [execOp, ho, had]; rfl) hx he
    · exact absurd he (by simp)
  · rename_i op t x y yt ho
    obtain ⟨v, vl, h1, h2, h3, h4⟩ := binOpA_sound hE (ox := x) (oy := y) (by intro h; simpa using h) (ev x) (ev y) he
    exact val (by simp [ho]) (by simp only [execOp, ho, Sem.run_bind, h3, h4, Result.andThen_ok, Sem.run_pure]) h2 h1
  · rename_i op t x ho
    obtain ⟨v, vl, h1, h2, h3⟩ := unOpA_sound (P := P) c.w (ev x) he
    exact val (by simp [ho]) (by simp only [execOp, ho, Sem.run_bind, h3, Result.andThen_ok, Sem.run_pure]) h2 h1
  · rename_i s d x ho
    obtain ⟨v, vl, h1, h2, h3⟩ := convA_sound hE c.w (ev x) he
    exact val (by simp [ho]) (by simp only [execOp, ho, Sem.run_bind, h3, Result.andThen_ok, Sem.run_pure]) h2 h1
  · rename_i t x ho
    split at he
    · rename_i ti hti
      obtain ⟨d, hd, hk⟩ := (hE.tt t ti hti).und
      have hno := (hE.tt t ti hti).other
      split at he
      · exact absurd he (by simp)
      · rename_i hne
        have hrun : (Instr.makeInterface t (a.eval x)).run P c.w = .ok (.iface t (a.eval x)) c.w := by
          simp only [Instr.makeInterface, Sem.run_bind, run_underlying hd, Result.andThen_ok]
          cases d with
          | interface m => cases hkk : ti.kind <;> rw [hkk] at hk hno hne <;> simp_all [TkOk]
          | _ => rfl
        refine val (x := .iface t (a.eval x)) (by simp [ho]) (by simp only [execOp, ho, Sem.run_bind, hrun, Result.andThen_ok, Sem.run_pure]) ?_ he
        rw [VR]
        exact ⟨_, rfl, ev x⟩
    · exact absurd he (by simp)
  · rename_i f first caps ho
    split at he
    · rename_i hf
      have e1 : first = #[] := Array.eq_empty_of_size_eq_zero hf
      refine val (x := .func (.func f) #[] (caps.map a.eval)) (by simp [ho]) (by simp [execOp, ho, Instr.makeFunc, e1]) ?_ he
      rw [VR]
      refine ⟨caps.toList.map a.eval, ?_, opds_sound hg ht _⟩
      congr 1
      rw [← Array.toList_map, Array.toArray_toList]
    · exact absurd he (by simp)
  · rename_i t l k ho
    split at he
    · rename_i l' k' hl hk
      obtain ⟨kl, hl⟩ := pvInt_sound (ev l) hl
      obtain ⟨kc, hk⟩ := pvInt_sound (ev k) hk
      obtain ⟨c', p, v, h1, h2, h3, h4⟩ := makeA_sound hE hr (kl := kl) (kc := kc) he
      exact val' (by simp [ho]) (by simp only [execOp, ho, hl, hk, Sem.run_bind, h4, Result.andThen_ok, Sem.run_pure]) h2 h3 h1
    · exact absurd he (by simp)
  · rename_i t x lo hi ho
    split at he
    · rename_i ti hti
      split at he
      · rename_i lo' hi' hlo hhi
        obtain ⟨v, vl, h1, h2, h3⟩ := sliceA_sound hE (hE.tt t ti hti) (ev x) (bd_sound hg ht hlo) (bd_sound hg ht hhi) he
        exact val (by simp [ho]) (by simp only [execOp, ho, Option.map_none, Sem.run_bind, h3, Result.andThen_ok, Sem.run_pure]) h2 h1
      · exact absurd he (by simp)
    · exact absurd he (by simp)
  · rename_i t x f ho
    split at he
    · rename_i ti hti
      split at he
      · rename_i v hv
        obtain ⟨vl, h1, h2⟩ := fieldAddrA_sound (hE.tt t ti hti) (ev x) hv
        exact val (by simp [ho]) (by simp only [execOp, ho, Sem.run_bind, h2, Result.andThen_ok, Sem.run_pure]) h1 he
      · exact absurd he (by simp)
    · exact absurd he (by simp)
  · rename_i t x f ho
    split at he
    · rename_i ti hti
      split at he
      · rename_i v hv
        obtain ⟨vl, h1, h2⟩ := fieldA_sound hE (hE.tt t ti hti) (ev x) hv
        exact val (by simp [ho]) (by simp only [execOp, ho, Sem.run_bind, h2, Result.andThen_ok, Sem.run_pure]) h1 he
      · exact absurd he (by simp)
    · exact absurd he (by simp)
  · rename_i t x i ho
    split at he
    · rename_i ti i' hti hi
      obtain ⟨v, vl, h1, h2, h3⟩ := indexAddrA_sound hE (hE.tt t ti hti) (ev x) (pvInt_sound (ev i) hi) he
      exact val (by simp [ho]) (by simp only [execOp, ho, Sem.run_bind, h3, Result.andThen_ok, Sem.run_pure]) h2 h1
    · exact absurd he (by simp)
  · rename_i t x i ho
    split at he
    · rename_i ti i' hti hi
      obtain ⟨v, vl, h1, h2, h3⟩ := indexA_sound hE (hE.tt t ti hti) (ev x) (pvInt_sound (ev i) hi) he
      exact val (by simp [ho]) (by simp only [execOp, ho, Sem.run_bind, h3, Result.andThen_ok, Sem.run_pure]) h2 h1
    · exact absurd he (by simp)
  · rename_i t i ho
    split at he
    · rename_i vs hvs
      split at he
      · rename_i v hv
        have hx := ev t
        rw [hvs] at hx
        obtain ⟨vl, h1, h2⟩ := extract_sound (P := P) c.w hx hv
        exact val (by simp [ho]) (by simp only [execOp, ho, Sem.run_bind, h2, Result.andThen_ok, Sem.run_pure]) h1 he
      · exact absurd he (by simp)
    · exact absurd he (by simp)
  · rename_i x xt as ok ho
    obtain ⟨v, vl, h1, h2, h3⟩ := assertA_sound hE c.w (xt := xt) (ev x) he
    exact val (by simp [ho]) (by simp only [execOp, ho, Sem.run_bind, h3, Result.andThen_ok, Sem.run_pure]) h2 h1
  · rename_i t x ho
    split at he
    · rename_i s hk hs
      obtain ⟨_, d1, _, _, hd1, hk1⟩ := kind_desc hE (t := t) (by rw [hk]; simp)
      rw [hk] at hk1
      simp only [TkOk] at hk1
      subst hk1
      have hx := ev x
      rw [hs, VR] at hx
      have hx := dStr_inv hx
      obtain ⟨c', v, h1, h2, h3, h4⟩ := range_sound hr hd1 s
      exact val' (by simp [ho]) (by simp only [execOp, ho, hx, Sem.run_bind, h1, Result.andThen_ok, Sem.run_pure]) h4 h2 (by rw [h3]; exact he)
    · exact absurd he (by simp)
  · rename_i x ho
    obtain ⟨c', p, v, lg, h1, h2, h3, h4⟩ := nextA_sound (P := P) hr (ev x) he o.type
    exact val' (by simp [ho]) (by simp only [execOp, ho, Sem.run_bind, h4, Result.andThen_ok, Sem.run_pure]) h2 h3 h1
  · rename_i x ho
    split at he
    · rename_i t v hv
      have hx := ev x
      rw [hv] at hx
      have hx' := hx
      rw [VR] at hx'
      obtain ⟨u, hu, _⟩ := hx'
      have hrun : (Instr.panic (.iface t u)).run P c.w = .halt (.panic (.iface t u)) c.w := by simp [Instr.panic]
      refine wpIn_of (by simp [ho]) (x := .halt (.panic (.iface t u)) c.w) (by simp only [execOp, ho, hu, Sem.run_bind, hrun, Result.andThen]) ?_
      rw [← hu]
      exact hP c _ _ _ (Mv.refl hr) hx he
    · exact absurd he (by simp)
  · rename_i cl ho
    have hargs : VRs c (cl.args.toList.map (opd E ts)) (cl.args.map a.eval).toList := by rw [Array.toList_map]; exact opds_sound hg ht _
    split at he
    · rename_i f hf
      refine wpIn_of (by simp [ho]) (by simp only [execOp, ho, resolve, hf]; rfl) ?_
      exact callA_sound hE hO hr h0 hg he (ev f) hargs hK hP
    · rename_i b hb
      refine wpIn_of (by simp [ho]) (by simp only [execOp, ho, resolve, hb, Sem.run_bind, Sem.run_pure, Result.andThen_ok, invoke]; rfl) ?_
      exact builtinA_sound hE hr he hargs hK hP
    · exact absurd he (by simp)
  · exact absurd he (by simp)

end
end Go.Fy

set_option linter.unusedVariables false
namespace Go.Fy
open Go.RowKit

/-- The blocks from n on are nobody's. -/
def Cx.trunc (c : Cx) (n : Nat) : Cx := { c with bs := c.bs.take n, caps := c.caps.take n, H := c.H.take n }

section
variable {P : Program} {E : Env} {c : Cx} {w0 : World}

theorem getD_take {l : List Nat} {n i : Nat} (h : i < n) : (l.take n).getD i 0 = l.getD i 0 := by simp [List.getD_eq_getElem?_getD, List.getElem?_take, h]

theorem live_take {H : List Blk} {n i : Nat} (h : live (H.take n) i) : live H i ∧ i < n := by
  obtain ⟨y, hy, hd⟩ := h
  rw [List.getElem?_take] at hy
  split at hy
  · rename_i hi; exact ⟨⟨y, hy, hd⟩, hi⟩
  · exact absurd hy (by simp)

theorem trunc_keeps (c : Cx) (n : Nat) : Keeps c.w c.ok (c.trunc n).w (c.trunc n).ok := by
  refine ⟨fun b hb => ?_, fun _ _ => rfl⟩
  rcases hb with hb | ⟨h1, h2, h3⟩
  · exact .inl hb
  · refine .inr ⟨h1, h2, fun i hi => ?_⟩
    obtain ⟨hl, hn⟩ := live_take hi
    simp only [Cx.trunc]
    rw [getD_take hn]
    exact h3 i hl

mutual
theorem VR.trunc {n : Nat} (hn : n ≤ c.H.length) : ∀ (p : PV) (v : Value), rb n p = true → VR c p v → VR (c.trunc n) p v
  | .un, _, _, _ => trivial
  | .d t x, v, _, hv => by rw [VR] at hv ⊢; exact DV.keeps (trunc_keeps c n) hv
  | .nsl, v, _, hv => by rw [VR] at hv ⊢; exact hv
  | .ag us, v, hb, hv => by
    rw [rb] at hb
    rw [VR] at hv ⊢
    obtain ⟨cs, e, hu⟩ := hv
    exact ⟨cs, e, URs.trunc hn us cs hb hu⟩
  | .tu vs, v, hb, hv => by
    rw [rb] at hb
    rw [VR] at hv ⊢
    obtain ⟨l, e, hu⟩ := hv
    exact ⟨l, e, VRs.trunc hn vs l hb hu⟩
  | .pt b i, v, hb, hv => by
    simp only [rb, decide_eq_true_eq] at hb
    rw [VR] at hv ⊢
    refine ⟨hv.1, by simp only [Cx.trunc, List.length_take]; omega, fun us' hx => ?_⟩
    simp only [Cx.trunc, List.getElem?_take, hb, if_true] at hx ⊢
    rw [getD_take hb]
    exact hv.2.2 us' hx
  | .pe b i ver j q, v, hb, hv => by
    simp only [rb, decide_eq_true_eq] at hb
    rw [VR] at hv ⊢
    refine ⟨hv.1, by simp only [Cx.trunc, List.length_take]; omega, fun us' hx => ?_, fun e' t' xs' u' hx => ?_⟩
    · simp only [Cx.trunc, List.getElem?_take, hb, if_true] at hx ⊢
      rw [getD_take hb]
      exact hv.2.2.1 us' hx
    · simp only [Cx.trunc, List.getElem?_take, hb, if_true] at hx ⊢
      rw [getD_take hb]
      exact hv.2.2.2 e' t' xs' u' hx
  | .ce t x q, v, _, hv => by
    rw [VR] at hv ⊢
    obtain ⟨b, off, cs, e, hb, hd, ha⟩ := hv
    have k := trunc_keeps c n
    exact ⟨b, off, cs, e, k.okk b hb, DC.keeps k t x cs hd, ha.keeps k hb⟩
  | .np, v, _, hv => by rw [VR] at hv ⊢; exact hv
  | .ro b ver off len, v, hb, hv => by
    simp only [rb, decide_eq_true_eq] at hb
    rw [VR] at hv ⊢
    refine ⟨hv.1, by simp only [Cx.trunc, List.length_take]; omega, fun e' t' xs' u' hx => ?_⟩
    simp only [Cx.trunc, List.getElem?_take, hb, if_true] at hx ⊢
    rw [getD_take hb, getD_take hb]
    exact hv.2.2 e' t' xs' u' hx
  | .ar b i off len, v, hb, hv => by
    simp only [rb, decide_eq_true_eq] at hb
    rw [VR] at hv ⊢
    refine ⟨hv.1, by simp only [Cx.trunc, List.length_take]; omega, fun us' hx => ?_⟩
    simp only [Cx.trunc, List.getElem?_take, hb, if_true] at hx ⊢
    rw [getD_take hb]
    exact hv.2.2 us' hx
  | .fn f caps, v, hb, hv => by
    rw [rb] at hb
    rw [VR] at hv ⊢
    obtain ⟨l, e, hu⟩ := hv
    exact ⟨l, e, VRs.trunc hn caps l hb hu⟩
  | .yl l, v, hb, hv => by
    simp only [rb, decide_eq_true_eq] at hb
    rw [VR] at hv ⊢
    refine ⟨hv.1, by simp only [Cx.trunc, List.length_take]; omega, fun r' hx => ?_⟩
    simp only [Cx.trunc, List.getElem?_take, hb, if_true] at hx ⊢
    rw [getD_take hb]
    exact hv.2.2 r' hx
  | .nf, v, _, hv => by rw [VR] at hv ⊢; exact hv
  | .ic t p, v, hb, hv => by
    rw [rb] at hb
    rw [VR] at hv ⊢
    obtain ⟨u, e, hu⟩ := hv
    exact ⟨u, e, VR.trunc hn p u hb hu⟩
  | .ni, v, _, hv => by rw [VR] at hv ⊢; exact hv
  | .mp b, v, hb, hv => by
    simp only [rb, decide_eq_true_eq] at hb
    rw [VR] at hv ⊢
    refine ⟨hv.1, by simp only [Cx.trunc, List.length_take]; omega, fun es' k' hx => ?_⟩
    simp only [Cx.trunc, List.getElem?_take, hb, if_true] at hx ⊢
    rw [getD_take hb]
    exact hv.2.2 es' k' hx
  | .nm, v, _, hv => by rw [VR] at hv ⊢; exact hv
  | .it b, v, hb, hv => by
    simp only [rb, decide_eq_true_eq] at hb
    rw [VR] at hv ⊢
    refine ⟨hv.1, by simp only [Cx.trunc, List.length_take]; omega, fun es' k' hx => ?_⟩
    simp only [Cx.trunc, List.getElem?_take, hb, if_true] at hx ⊢
    rw [getD_take hb]
    exact hv.2.2 es' k' hx
theorem VRs.trunc {n : Nat} (hn : n ≤ c.H.length) : ∀ (ps : List PV) (l : List Value), rbs n ps = true → VRs c ps l → VRs (c.trunc n) ps l
  | [], l, _, hl => by rw [VRs] at hl ⊢; exact hl
  | p :: ps, l, hb, hl => by
    simp only [rbs, Bool.and_eq_true] at hb
    rw [VRs] at hl ⊢
    obtain ⟨v, r, e, h1, h2⟩ := hl
    exact ⟨v, r, e, VR.trunc hn p v hb.1 h1, VRs.trunc hn ps r hb.2 h2⟩
theorem URs.trunc {n : Nat} (hn : n ≤ c.H.length) : ∀ (ps : List PV) (cs : List Value), rbs n ps = true → URs c ps cs → URs (c.trunc n) ps cs
  | [], l, _, hl => by rw [URs] at hl ⊢; exact hl
  | p :: ps, l, hb, hl => by
    simp only [rbs, Bool.and_eq_true] at hb
    have ih := VR.trunc hn p
    rw [URs] at hl ⊢
    obtain ⟨a, b, e, h1, h2⟩ := hl
    refine ⟨a, b, e, URs.trunc hn ps b hb.2 h1, ?_⟩
    cases p with
    | d t x => exact DC.keeps (trunc_keeps c n) t x a h2
    | _ => obtain ⟨v, e', ho, hv⟩ := h2; exact ⟨v, e', ho, ih v hb.1 hv⟩
end

theorem trunc_rel (hr : Rel w0 c) {n : Nat} (hn : n ≤ c.H.length) (hb : (c.H.take n).all (rbB n) = true) : Rel w0 (c.trunc n) := by
  refine ⟨hr.lo, hr.okl, by simp [Cx.trunc, hr.len], by simp [Cx.trunc, hr.lenc], hr.below, ?_, ?_, ?_⟩
  · intro i j hi hj he
    obtain ⟨hi, h1⟩ := live_take hi
    obtain ⟨hj, h2⟩ := live_take hj
    simp only [Cx.trunc] at he
    rw [getD_take h1, getD_take h2] at he
    exact hr.inj i j hi hj he
  · intro i hi
    obtain ⟨hi, h1⟩ := live_take hi
    simp only [Cx.trunc]
    rw [getD_take h1]
    exact hr.rng i hi
  · intro i x hx
    have hx' := hx
    simp only [Cx.trunc, List.getElem?_take] at hx'
    split at hx'
    · rename_i hi
      have hbx : rbB n x = true := List.all_eq_true.1 hb x (List.mem_of_getElem? hx)
      have hbr := hr.blk i x hx'
      have e1 : (c.trunc n).bs.getD i 0 = c.bs.getD i 0 := getD_take hi
      have e2 : (c.trunc n).caps.getD i 0 = c.caps.getD i 0 := getD_take hi
      cases x with
      | dead => trivial
      | cells us =>
        obtain ⟨cs, e, h1, h2, h3⟩ := hbr
        exact ⟨cs, e, by rw [e1]; exact h1, URs.trunc hn us cs hbx h2, h3⟩
      | row e t xs u =>
        obtain ⟨cs, rest, h1, h2, h3, h4, h5, h6⟩ := hbr
        exact ⟨cs, rest, by rw [e1]; exact h1, Chain.mono (fun x cs => DC.keeps (trunc_keeps c n) t x cs) xs cs h2, h3, by rw [e2]; exact h4, by rw [e2]; exact h5, by rw [e2]; exact h6⟩
      | loop r =>
        obtain ⟨lp, h1, h2, h3, h5, h6⟩ := hbr
        exact ⟨lp, by rw [e1]; exact h1, h2, h3, VRs.trunc hn _ _ hbx h5, h6⟩
      | defs => show c.w.heap[(c.trunc n).bs.getD i 0]? = _; rw [e1]; exact hbr
      | map es k =>
        obtain ⟨ms, h1, h2⟩ := hbr
        exact ⟨ms, by rw [e1]; exact h1, h2⟩
      | iter s p => show c.w.heap[(c.trunc n).bs.getD i 0]? = _; rw [e1]; exact hbr
    · exact absurd hx' (by simp)

theorem Goes.congr {c c' c'' : Cx} {i : Nat} {x y : Blk} (h : Goes c c' i x y) (hb : c''.bs.getD i 0 = c'.bs.getD i 0) (hc : c''.caps.getD i 0 = c'.caps.getD i 0) : Goes c c'' i x y := by
  cases y <;> cases x <;> simp only [Goes] at h ⊢ <;> first | trivial | (rw [hb, hc]; exact h) | (rw [hb]; exact h)

/-- Seen from where it began. -/
theorem trunc_mv {c0 : Cx} (hm : Mv w0 c0 c) (hb : (c.H.take c0.H.length).all (rbB c0.H.length) = true) : Mv w0 c0 (c.trunc c0.H.length) := by
  have hn := hm.ext.len
  refine ⟨trunc_rel hm.rel hn hb, ⟨hm.ext.keeps.trans (trunc_keeps c _), by simp only [Cx.trunc, List.length_take]; omega, fun i x x' hx hx' => ?_⟩, hm.ok0⟩
  have hi : i < c0.H.length := (List.getElem?_eq_some_iff.1 hx).1
  simp only [Cx.trunc, List.getElem?_take, hi, if_true] at hx'
  exact (hm.ext.goes i x x' hx hx').congr (getD_take hi) (getD_take hi)

theorem trunc_mvm {c0 : Cx} (hm : Mv w0 c0 c) {m : Nat} (h1 : c0.H.length ≤ m) (hn : m ≤ c.H.length) (hb : (c.H.take m).all (rbB m) = true) : Mv w0 c0 (c.trunc m) := by
  refine ⟨trunc_rel hm.rel hn hb, ⟨hm.ext.keeps.trans (trunc_keeps c _), by simp only [Cx.trunc, List.length_take]; omega, fun i x x' hx hx' => ?_⟩, hm.ok0⟩
  have hi : i < m := Nat.lt_of_lt_of_le (List.getElem?_eq_some_iff.1 hx).1 h1
  simp only [Cx.trunc, List.getElem?_take, hi, if_true] at hx'
  exact (hm.ext.goes i x x' hx hx').congr (getD_take hi) (getD_take hi)

theorem rbs_get {n : Nat} : ∀ {ts : List PV}, rbs n ts = true → ∀ i, rb n (ts.getD i .un) = true
  | [], _, i => by simp [rb]
  | p :: ts, h, i => by
    simp only [rbs, Bool.and_eq_true] at h
    cases i with
    | zero => exact h.1
    | succ i => exact rbs_get h.2 i
theorem TS.truncAll {n : Nat} (hn : n ≤ c.H.length) {ts : List PV} {tm : Array Value} (h : TS c ts tm) (hb : rbs n ts = true) : TS (c.trunc n) ts tm :=
  ⟨h.1, fun i => VR.trunc hn _ _ (rbs_get hb i) (h.2 i)⟩

theorem TS.trunc {n : Nat} (hn : n ≤ c.H.length) {ts : List PV} {tm : Array Value} (h : TS c ts tm) : TS (c.trunc n) (ts.map fun p => bif rb n p then p else .un) tm := by
  refine ⟨by simp [h.1], fun i => ?_⟩
  have := h.2 i
  rw [List.getD_eq_getElem?_getD, List.getElem?_map]
  rw [List.getD_eq_getElem?_getD] at this
  cases hi : ts[i]? with
  | none => simp only [Option.map_none, Option.getD_none]; rw [VR]; trivial
  | some p =>
    simp only [hi, Option.map_some, Option.getD_some] at this ⊢
    cases hb : rb n p with
    | true => exact VR.trunc hn p _ hb this
    | false => simp only [cond_false]; rw [VR]; trivial

end
end Go.Fy

set_option linter.unusedVariables false
namespace Go.Fy
open Go.RowKit

/-- How code is left. -/
def ExR (c : Cx) : Ex → Exit → Prop
  | .normal, e => e = .normal
  | .exit i, e => e = .exit i
  | .goto l, e => e = .goto l
  | .ret, e => e = .ret
  | .panic v, e => ∃ x, e = .panic [{ v := x, recovered := false }] ∧ VR c v x

def Ex.calm : Ex → Bool
  | .panic _ => false
  | _ => true

/-- The marks among a frame's deferred calls: loops' blocks. -/
def DF (c : Cx) : List Nat → List Deferred → Prop
  | [], ds => ds = []
  | i :: is, ds => ∃ d r b, ds = d :: r ∧ d.target = .collected b ∧ i < c.H.length ∧ (c.H[i]? = some .defs → c.bs.getD i 0 = b) ∧ DF c is r

theorem DF.ext {c c' : Cx} (h : Ext c c') : ∀ (is : List Nat) (ds : List Deferred), DF c is ds → DF c' is ds
  | [], _, hd => hd
  | i :: is, _, ⟨d, r, b, e, ht, hi, hb, hd⟩ => ⟨d, r, b, e, ht, Nat.lt_of_lt_of_le hi h.len, fun hx => by
      obtain ⟨x, hx', hg⟩ := h.back hi hx
      obtain ⟨rfl, e2⟩ := hg.defs
      rw [e2]
      exact hb hx', DF.ext h is r hd⟩

theorem DF.trunc {c : Cx} {n : Nat} (hn : n ≤ c.H.length) : ∀ (is : List Nat) (ds : List Deferred), is.all (fun d => decide (d < n)) = true → DF c is ds → DF (c.trunc n) is ds
  | [], _, _, hd => hd
  | i :: is, _, hb, ⟨d, r, b, e, ht, hi, hx, hd⟩ => by
    simp only [List.all_cons, Bool.and_eq_true, decide_eq_true_eq] at hb
    refine ⟨d, r, b, e, ht, by simp only [Cx.trunc, List.length_take]; omega, fun hy => ?_, DF.trunc hn is r hb.2 hd⟩
    simp only [Cx.trunc, List.getElem?_take, hb.1, if_true] at hy ⊢
    rw [getD_take hb.1]
    exact hx hy

/-- A frame's state. -/
structure FS (c : Cx) (σ : St) (a : Act) : Prop where
  ts : TS c σ.ts a.tmps
  h : σ.h = c.H
  ds : DF c σ.df a.defers

/-- A frame's state as it is left. -/
structure FE (c : Cx) (x : Ex) (σ : St) (a : Act) : Prop where
  ts : x.calm = true → TS c σ.ts a.tmps
  h : σ.h = c.H
  ds : DF c σ.df a.defers

section
variable {P : Program} {E : Env} {c : Cx} {w0 : World} {ok0 : Nat → Prop} {ρ : Type} {r : ρ} {orc : Orc ρ} {ro : Option Nat} {n : Nat} {Q : Exit → Act → World → Prop} {a : Act}

theorem TS.same {ts : List PV} {tm : Array Value} (h : TS c ts tm) {t : Nat} {p : PV} (hp : VR c p (tm.getD t undef)) : TS c (ts.set t p) tm := by
  refine ⟨by simp [h.1], fun i => ?_⟩
  by_cases hi : t = i
  · subst hi
    by_cases hl : t < ts.length
    · rw [List.getD_eq_getElem?_getD, List.getElem?_set_self hl]
      exact hp
    · rw [List.getD_eq_getElem?_getD, List.getElem?_eq_none (by rw [List.length_set]; omega)]
      rw [Option.getD_none, VR]
      trivial
  · rw [List.getD_eq_getElem?_getD, List.getElem?_set_ne hi, ← List.getD_eq_getElem?_getD]
    exact h.2 i

theorem yielded_of {ops : Array Oper} {tm : Array Value} {j t : Nat} {b : Bool} (hj : (ops.toList[j]?).bind (·.dst) = some t) (h : tm.getD t undef = .bool b) : yielded ops tm j = some b := by
  have e1 : (ops[j]?).bind (·.dst) = some t := by rw [← Array.getElem?_toList]; exact hj
  have e2 : tm[t]? = some (.bool b) := by
    by_cases hl : t < tm.size
    · rw [Array.getElem?_eq_getElem hl]
      rw [Array.getD_eq_getD_getElem?, Array.getElem?_eq_getElem hl] at h
      exact congrArg some h
    · rw [Array.getD_eq_getD_getElem?, Array.getElem?_eq_none (by omega)] at h
      exact absurd h (by simp [undef])
  simp [yielded, e1, e2]

theorem yielded_none {ops : Array Oper} {ts : List PV} {tm : Array Value} {j t : Nat} (hj : (ops.toList[j]?).bind (·.dst) = some t) (ht : TS c ts tm) (hb : ts.getD t .un = .tu []) : yielded ops tm j = none := by
  have hv : tm.getD t undef = undef := by
    have := ht.2 t
    rw [hb, VR] at this
    obtain ⟨l, e, hl⟩ := this
    rw [VRs] at hl
    subst hl
    exact e
  have e1 : (ops[j]?).bind (·.dst) = some t := by rw [← Array.getElem?_toList]; exact hj
  rw [Array.getD_eq_getD_getElem?] at hv
  cases hq : tm[t]? with
  | none => simp [yielded, e1, hq]
  | some z =>
    rw [hq] at hv
    have hv : z = undef := hv
    simp [yielded, e1, hq, hv, undef]

theorem evOps_sound (hE : EnvOk P E) (hO : OrcOk P w0 ok0 orc) (hg0 : GOk E w0 ok0) {ops : Array Oper} {ds : List Deferred} : ∀ (l : List Oper) (c : Cx) (ts : List PV) (a : Act) (lg : List Nat) (K : List PV → List Blk → List Nat → Option ρ) (KP : KV ρ),
    evOps E orc ops.toList l ts c.H lg K KP = some r → Rel w0 c → c.ok0 = ok0 → TS c ts a.tmps → a.defers = ds →
    (∀ c' ts' a' lg', Mv w0 c c' → TS c' ts' a'.tmps → a'.defers = ds → K ts' c'.H lg' = some r → Q .normal a' c'.w) →
    (∀ c' v val a' lg', Mv w0 c c' → VR c' v val → a'.defers = ds → KP v c'.H lg' = some r → Q (.panic [{ v := val, recovered := false }]) a' c'.w) → wpListIn (W ro) n P ops Q l a c.w
  | [], c, ts, a, lg, K, KP, he, hr, h0, ht, hd, hK, hP => hK c ts a lg (Mv.refl hr) ht hd he
  | o :: l, c, ts, a, lg, K, KP, he, hr, h0, ht, hd, hK, hP => by
    have hg : GOk E c.w c.ok := hg0.keeps (h0 ▸ rel_keeps hr)
    have run : ∀ ts, TS c ts a.tmps → evOp E orc ts c.H o (fun v h' lg' => evOps E orc ops.toList l (putT ts o.dst v) h' lg K KP) (fun v h' lg' => KP v h' lg) = some r → o.wpIn (W ro) n P a c.w (wpListIn (W ro) n P ops Q l) Q := by
      intro ts ht he
      refine evOp_sound hE hO hr h0 hg ht he ?_ ?_
      · intro c' v val lg' hm hv hk
        refine evOps_sound hE hO hg0 l c' _ _ _ K KP hk hm.rel (hm.ok0.trans h0) ((ht.ext hm.ext).put o.dst hv) (by cases o.dst <;> exact hd) ?_ ?_
        · exact fun c'' ts' a' lg'' hm' => hK c'' ts' a' lg'' (hm.trans hm')
        · exact fun c'' v' val' a' lg'' hm' => hP c'' v' val' a' lg'' (hm.trans hm')
      · intro c' v val lg' hm hv hk
        exact hP c' v val a _ hm hv hd hk
    have skip : ∀ ts, TS c ts a.tmps → evOps E orc ops.toList l (putT ts o.dst (.tu [])) c.H lg K KP = some r → wpListIn (W ro) n P ops Q l (a.put o.dst undef) c.w := by
      intro ts ht he
      exact evOps_sound hE hO hg0 l c _ _ _ K KP he hr h0 (ht.put o.dst (by rw [VR]; exact ⟨[], rfl, by rw [VRs]⟩)) (by cases o.dst <;> exact hd) hK hP
    rw [wpListIn]
    unfold evOps evG at he
    simp only at he
    split at he
    · rename_i hgd
      have hw : Region.wanted o (yielded ops a.tmps) = true := by simp [Region.wanted, hgd]
      rw [if_pos hw]
      exact run ts ht he
    · rename_i j want hgd
      split at he
      · exact absurd he (by simp)
      · rename_i t hj
        split at he
        · rename_i b hb
          have hv : a.tmps.getD t undef = .bool b := by
            have := ht.2 t
            rw [hb, VR] at this
            exact dBool_inv this
          have hy := yielded_of hj hv
          have hs : ∀ b', b = b' → TS c (ts.set t (.d .bool b')) a.tmps := fun b' e => ht.same (by rw [hv, e]; exact dV (dBool b'))
          cases want with
          | true =>
            simp only [cond_true] at he
            cases b with
            | true =>
              rw [if_pos (by simp [Region.wanted, hgd, hy])]
              exact run _ (hs true rfl) he
            | false =>
              rw [if_neg (by simp [Region.wanted, hgd, hy])]
              exact ⟨fun _ _ => trivial, skip _ (hs false rfl) he⟩
          | false =>
            simp only [cond_false] at he
            cases b with
            | true =>
              rw [if_neg (by simp [Region.wanted, hgd, hy])]
              exact ⟨fun _ _ => trivial, skip _ (hs true rfl) he⟩
            | false =>
              rw [if_pos (by simp [Region.wanted, hgd, hy])]
              exact run _ (hs false rfl) he
        · rename_i hb
          have hy := yielded_none hj ht hb
          rw [if_neg (by simp [Region.wanted, hgd, hy])]
          exact ⟨fun _ _ => trivial, skip _ ht he⟩
        · exact absurd he (by simp)

/-- A region that draws comes to this. -/
def RegSem (P : Program) (E : Env) (id : Nat) (ops : Array Oper) (ts : List PV) (h : List Blk) (out : List PV × List Blk × List Nat) : Prop :=
  ∀ (w0 : World) (ok0 : Nat → Prop) (ro : Option Nat) (n : Nat) (Q : Exit → Act → World → Prop) (c : Cx) (a : Act), GOk E w0 ok0 → Rel w0 c → c.ok0 = ok0 → c.H = h → TS c ts a.tmps →
    (∀ c' a', Mv w0 c c' → c'.H = out.2.1 → TS c' out.1 a'.tmps → a'.defers = a.defers → Q .normal a' c'.w) → (Code.region id ops true).wpIn (W ro) n P Q a c.w
def ReOk (P : Program) (E : Env) : Prop := ∀ fno id ops ts h out, E.re fno id ops ts h = some out → RegSem P E id ops ts h out

/-- A region that draws, read as text. -/
def DrawOk (P : Program) (E : Env) (w0 : World) (ok0 : Nat → Prop) (orc : Orc ρ) (ok : Array Oper → Bool) : Prop :=
  ReOk P E ∧ ∀ (id : Nat) (ops : Array Oper) (ro : Option Nat) (n : Nat) (Q : Exit → Act → World → Prop) (r : ρ) (c : Cx) (ts : List PV) (a : Act) (ds : List Deferred) (lg : List Nat) (K : List PV → List Blk → List Nat → Option ρ), ok ops = true →
    evOps E orc ops.toList ops.toList ts c.H lg K (fun _ _ _ => none) = some r → Rel w0 c → c.ok0 = ok0 → TS c ts a.tmps → a.defers = ds →
    (∀ c' ts' a' lg', Mv w0 c c' → TS c' ts' a'.tmps → a'.defers = ds → K ts' c'.H lg' = some r → Q .normal a' c'.w) →
    (Code.region id ops true).wpIn (W ro) n P Q a c.w

/-! ### Loops over functions -/
theorem TS.VRs {c : Cx} {ts : List PV} {tm : Array Value} (h : TS c ts tm) : VRs c ts tm.toList := by
  obtain ⟨h1, h2⟩ := h
  have h1' : ts.length = tm.toList.length := by simpa using h1
  have h2' : ∀ i, VR c (ts.getD i .un) (tm.toList.getD i undef) := fun i => by
    have := h2 i
    rw [Array.getD_eq_getD_getElem?, ← Array.getElem?_toList, ← List.getD_eq_getElem?_getD] at this
    exact this
  clear h2 h1
  generalize tm.toList = l at h1' h2'
  induction ts generalizing l with
  | nil =>
    rw [Go.Fy.VRs]
    exact List.eq_nil_of_length_eq_zero h1'.symm
  | cons p ps ih =>
    cases l with
    | nil => simp at h1'
    | cons v l =>
      rw [Go.Fy.VRs]
      exact ⟨v, l, rfl, h2' 0, ih l (by simpa using h1') (fun i => h2' (i + 1))⟩

theorem wpIn_scope {F : Fence} {k : Nat} {P : Program} {Q : Exit → Act → World → Prop} {a : Act} {w : World} {x : Code} (h : x.wpIn F k P (Exit.noGoto Q) a w) : (Code.scope x).wpIn F k P Q a w := by
  intro b todo cs hro hb hr
  have s1 : step P (lone (b.atR a (.code (.scope x) :: todo)) cs w) = .next (lone (b.atR a (.code x :: .inScope x :: todo)) cs w) := step_lone_go (by simp [stepG, stepG.exec, Frame.atR])
  have h0 : (lone (b.atR a (.code (.scope x) :: todo)) cs w).fenced P F := fenced_calm hb hr rfl
  obtain ⟨e, a₁, w₁, hq, harr⟩ := h b (.inScope x :: todo) cs hro hb hr
  cases e with
  | normal =>
    have s2 : step P (lone (b.atR a₁ (.inScope x :: todo)) cs w₁) = .next (lone (b.atR a₁ todo) cs w₁) := step_lone_go (by simp [stepG, stepG.exec, Frame.atR])
    exact ⟨.normal, a₁, w₁, hq, .head h0 s1 (StepsIn.trans harr (.one (fenced_calm hb hr rfl) s2))⟩
  | exit id =>
    have hx : exitTo id (.inScope x :: todo) = exitTo id todo := by simp [exitTo]
    exact ⟨.exit id, a₁, w₁, hq, fun k' hk => .head h0 s1 (harr.1 k' (by rw [hx]; exact hk)), fun hr' hk => let ⟨k₁, h1, h2⟩ := harr.2 hr' (by rw [hx]; exact hk); ⟨k₁, h1, .head h0 s1 h2⟩⟩
  | goto l => exact hq.elim
  | ret => exact ⟨_, a₁, w₁, hq, .of_steps (.one h0 s1) harr⟩
  | panic ch => exact ⟨_, a₁, w₁, hq, .of_steps (.one h0 s1) harr⟩
  | outgrown => exact ⟨_, a₁, w₁, hq, .of_steps (.one h0 s1) harr⟩

theorem turns_putObj {c : Cx} (hr : Rel w0 c) {i : Nat} {x y : Blk} (hi : c.H[i]? = some y) (hy : y ≠ .dead) (o : Obj) : Turns c i x (c.w.putObj (c.bs.getD i 0) o) := by
  refine ⟨⟨rfl, rfl, rfl, by simp, fun k hk => ?_⟩, by simp, fun b hb => World.putObj_heap_other hb⟩
  have := (hr.rng i ⟨y, hi, hy⟩).1
  exact World.putObj_heap_other (by omega)

theorem loop_turn {c : Cx} (hr : Rel w0 c) {i : Nat} {r1 : LoopA} (hi : c.H[i]? = some (.loop r1)) {lp lp' : Loop} (hh : c.w.heap[c.bs.getD i 0]? = some (.loop lp)) (st : LoopState) (pd : Option Code)
    (h1 : lp'.state = st) (h2 : lp'.pending = pd) (h3 : VRs c r1.tmps lp'.tmps.toList) (h4 : lp'.params = r1.params.toArray ∧ lp'.assign = r1.assign ∧ lp'.body = r1.body) :
    Mv w0 c (c.turn i (.loop { r1 with state := st, pending := pd }) (c.w.putObj (c.bs.getD i 0) (.loop lp'))) := by
  have ht := turns_putObj (x := .loop { r1 with state := st, pending := pd }) hr hi (by simp) (.loop lp')
  have hg : Goes c (c.turn i (.loop { r1 with state := st, pending := pd }) (c.w.putObj (c.bs.getD i 0) (.loop lp'))) i (.loop r1) (.loop { r1 with state := st, pending := pd }) := rfl
  have hext := turn_ext hr hi (by simp) (by simp) ht hg
  refine ⟨turn_rel hr hi (by simp) (by simp) ht hg ?_, hext, rfl⟩
  refine ⟨lp', ?_, h1, h2, VRs.ext hext _ _ h3, h4⟩
  exact World.putObj_heap_same (hr.rng i ⟨_, hi, by simp⟩).2

/-- A loop's record is laid. -/
theorem laid_sound {c : Cx} (hr : Rel w0 c) {ts : List PV} {a : Act} (ht : TS c ts a.tmps) {fno : Nat} {fn : FuncId} {ps : Array Tmp} {x y : Code} :
    ∃ c2, Mv w0 c c2 ∧ c2.H = c.H ++ [.defs, .loop { state := .ready, pending := none, fno := fno, tmps := ts, params := ps.toList, assign := x, body := y }] ∧
      c2.w = (c.w.alloc (.deferred (some []))).alloc (.loop { state := .ready, pending := none, fn, tmps := a.tmps, params := ps, assign := x, body := y, defers := c.w.heap.size }) ∧
      c2.bs.getD c.H.length 0 = c.w.heap.size ∧ c2.bs.getD (c.H.length + 1) 0 = c.w.heap.size + 1 := by
  have e1 := push_ext hr (.deferred (some [])) .defs 0
  have r1 := push_rel hr (.deferred (some [])) .defs 0 (by
    show (c.push _ _ _).w.heap[(c.push _ _ _).bs.getD c.H.length 0]? = _
    rw [push_bs hr]
    exact heap_alloc_new _ _)
  have hl1 : (c.push (.deferred (some [])) .defs 0).H.length = c.H.length + 1 := by simp [Cx.push]
  have hs1 : (c.push (.deferred (some [])) .defs 0).w.heap.size = c.w.heap.size + 1 := by simp [Cx.push]
  let lp : Loop := { state := .ready, pending := none, fn, tmps := a.tmps, params := ps, assign := x, body := y, defers := c.w.heap.size }
  let la : LoopA := { state := .ready, pending := none, fno := fno, tmps := ts, params := ps.toList, assign := x, body := y }
  have e2 := push_ext r1 (.loop lp) (.loop la) 0
  have b2 := push_bs r1 (.loop lp) (.loop la) 0
  have r2 := push_rel r1 (.loop lp) (.loop la) 0 (by
    refine ⟨lp, ?_, rfl, rfl, VRs.ext (e1.trans e2) _ _ ht.VRs, by simp [lp, la], rfl, rfl⟩
    rw [b2]
    exact heap_alloc_new _ _)
  refine ⟨_, ⟨r2, e1.trans e2, rfl⟩, by simp [Cx.push, la], rfl, ?_, ?_⟩
  · have : ((c.push (.deferred (some [])) .defs 0).push (.loop lp) (.loop la) 0).bs.getD c.H.length 0 = (c.push (.deferred (some [])) .defs 0).bs.getD c.H.length 0 := getD_append_lt _ _ _ (by rw [r1.len, hl1]; omega)
    rw [this]
    exact push_bs hr _ _ _
  · rw [← hl1, b2, hs1]

theorem TS.clrT {ts : List PV} {tm : Array Value} (h : TS c ts tm) (l : Option (List Nat)) : TS c (clrT l ts) tm := by
  cases l with
  | none => exact h
  | some l =>
    have key : ∀ (ts : List PV) (i : Nat), (clrL l i ts).length = ts.length ∧ ∀ j, (clrL l i ts).getD j .un = ts.getD j .un ∨ (clrL l i ts).getD j .un = .un := by
      intro ts
      induction ts with
      | nil => intro i; exact ⟨rfl, fun j => .inl rfl⟩
      | cons p r ih =>
        intro i
        obtain ⟨h1, h2⟩ := ih (i + 1)
        refine ⟨by rw [clrL, List.length_cons, List.length_cons, h1], fun j => ?_⟩
        cases j with
        | zero =>
          rw [clrL]
          cases l.any (Nat.beq i) with
          | true => exact .inl rfl
          | false => exact .inr rfl
        | succ j =>
          rw [clrL]
          simp only [List.getD_cons_succ]
          exact h2 j
    obtain ⟨h1, h2⟩ := key ts 0
    refine ⟨h1.trans h.1, fun j => ?_⟩
    rcases h2 j with e | e
    · show VR c ((clrL l 0 ts).getD j .un) _
      rw [e]; exact h.2 j
    · show VR c ((clrL l 0 ts).getD j .un) _
      rw [e, VR]; trivial

theorem gcM_sound {c0 c' : Cx} (hm : Mv w0 c0 c') {tm : Array Value} {ds : List Deferred} : ∀ (j m : Nat) (σ : St), c0.H.length ≤ m → m + j ≤ c'.H.length → TS c' σ.ts tm → σ.h = c'.H → DF c' σ.df ds →
    ∃ c'', Mv w0 c0 c'' ∧ c''.w = c'.w ∧ TS c'' (gcM j m σ).ts tm ∧ (gcM j m σ).h = c''.H ∧ DF c'' (gcM j m σ).df ds
  | 0, m, σ, _, _, ht, hh, hd => ⟨c', hm, rfl, ht, hh, hd⟩
  | j + 1, m, σ, h1, h2, ht, hh, hd => by
    rw [gcM]
    cases hb : (σ.h.take m).all (rbB m) && (rbs m σ.ts && σ.df.all (fun d => decide (d < m))) with
    | false => exact gcM_sound hm j (m + 1) σ (by omega) (by omega) ht hh hd
    | true =>
      simp only [Bool.and_eq_true] at hb
      obtain ⟨hb1, hb2, hb3⟩ := hb
      rw [hh] at hb1
      have hn : m ≤ c'.H.length := by omega
      exact ⟨c'.trunc m, trunc_mvm hm h1 hn hb1, rfl, ht.truncAll hn hb2, by simp only [cond_true]; rw [hh]; rfl, DF.trunc hn _ _ hb3 hd⟩
theorem gcT_sound {c0 c' : Cx} (hm : Mv w0 c0 c') (kl : Option (List Nat)) {n0 : Nat} (hn : c0.H.length = n0) {tm : Array Value} {ds : List Deferred} {σ : St} (ht : TS c' σ.ts tm) (hh : σ.h = c'.H) (hd : DF c' σ.df ds) :
    ∃ c'', Mv w0 c0 c'' ∧ c''.w = c'.w ∧ TS c'' (gcT kl n0 σ).ts tm ∧ (gcT kl n0 σ).h = c''.H ∧ DF c'' (gcT kl n0 σ).df ds := by
  have := hm.ext.len
  exact gcM_sound hm _ _ (clr kl σ) (by omega) (by rw [hh]; omega) (ht.clrT kl) hh hd

/-- The rounds of a loop. -/
theorem evLoop_sound {b : Code} {f : St → (Ex → St → Option ρ) → Option ρ} {n0 : Nat} {kl : Option (List Nat)} {c0 : Cx} (hn : c0.H.length = n0)
    (hf : ∀ (c : Cx) (σ : St) (a : Act) (K : Ex → St → Option ρ) (Q : Exit → Act → World → Prop), f σ K = some r → Mv w0 c0 c → FS c σ a →
      (∀ c' x σ' a' e, Mv w0 c0 c' → ExR c' x e → FE c' x σ' a' → K x σ' = some r → Q e a' c'.w) → b.wpIn (W ro) n P Q a c.w) :
    ∀ (m : Nat) (c : Cx) (σ : St) (a : Act) (K : Ex → St → Option ρ), evLoop f (gcT kl n0) m σ K = some r → Mv w0 c0 c → FS c σ a →
      (∀ c' x σ' a' e, Mv w0 c0 c' → ExR c' x e → FE c' x σ' a' → K x σ' = some r → Q e a' c'.w) → Code.roundsIn (W ro) n P b Q m a c.w
  | 0, c, σ, a, K, he, _, _, _ => by simp [evLoop] at he
  | m + 1, c, σ, a, K, he, hm, hs, hK => by
    rw [roundsIn_succ]
    unfold evLoop at he
    refine hf c σ a _ _ he hm hs fun c' x σ' a' e hm' hx hfe hk => ?_
    cases x with
    | normal =>
      rw [show e = .normal from hx]
      show Code.roundsIn (W ro) n P b Q m a' c'.w
      simp only at hk
      have hts := hfe.ts rfl
      obtain ⟨c'', h1, h2, h3, h4, h5⟩ := gcT_sound hm' kl hn hts hfe.h hfe.ds
      rw [← h2]
      exact evLoop_sound hn hf m c'' _ a' K hk h1 ⟨h3, h4, h5⟩ hK
    | exit i => rw [show e = .exit i from hx]; exact hK c' (.exit i) σ' a' _ hm' rfl hfe hk
    | goto l => rw [show e = .goto l from hx]; exact hK c' (.goto l) σ' a' _ hm' rfl hfe hk
    | ret => rw [show e = .ret from hx]; exact hK c' .ret σ' a' _ hm' rfl hfe hk
    | panic v =>
      obtain ⟨y, rfl, hv⟩ := hx
      exact hK c' (.panic v) σ' a' _ hm' ⟨y, rfl, hv⟩ hfe hk

theorem evCode_sound (hE : EnvOk P E) (hO : OrcOk P w0 ok0 orc) (hg0 : GOk E w0 ok0) (hD : DrawOk P E w0 ok0 orc E.ok) {fno : Nat} {k : Nat} {inR : Bool} (hro : inR = false → ro = none) : ∀ (b : Code), drOk E.ok (E.dr fno) b = true →
    ∀ (Q : Exit → Act → World → Prop) (c : Cx) (σ : St) (a : Act) (K : Ex → St → Option ρ), evCode E orc inR fno k b σ K = some r → Rel w0 c → c.ok0 = ok0 → FS c σ a →
      (∀ c' x σ' a' e, Mv w0 c c' → ExR c' x e → FE c' x σ' a' → K x σ' = some r → Q e a' c'.w) → b.wpIn (W ro) n P Q a c.w
  | .skip, _, Q, c, σ, a, K, he, hr, h0, hs, hK => by
    rw [evCode] at he
    exact wpIn_skip (hK c .normal σ a _ (Mv.refl hr) rfl ⟨fun _ => hs.ts, hs.h, hs.ds⟩ he)
  | .label l, _, Q, c, σ, a, K, he, hr, h0, hs, hK => by
    rw [evCode] at he
    exact wpIn_label (hK c .normal σ a _ (Mv.refl hr) rfl ⟨fun _ => hs.ts, hs.h, hs.ds⟩ he)
  | .exit i, _, Q, c, σ, a, K, he, hr, h0, hs, hK => by
    rw [evCode] at he
    exact wpIn_exit (hK c (.exit i) σ a _ (Mv.refl hr) rfl ⟨fun _ => hs.ts, hs.h, hs.ds⟩ he)
  | .goto l, _, Q, c, σ, a, K, he, hr, h0, hs, hK => by
    rw [evCode] at he
    exact wpIn_goto (hK c (.goto l) σ a _ (Mv.refl hr) rfl ⟨fun _ => hs.ts, hs.h, hs.ds⟩ he)
  | .ret, _, Q, c, σ, a, K, he, hr, h0, hs, hK => by
    rw [evCode] at he
    exact wpIn_ret (hK c .ret σ a _ (Mv.refl hr) rfl ⟨fun _ => hs.ts, hs.h, hs.ds⟩ he)
  | .region id ops d, hdr, Q, c, σ, a, K, he, hr, h0, hs, hK => by
    have k1 : ∀ c' ts' a' lg', Mv w0 c c' → TS c' ts' a'.tmps → a'.defers = a.defers → (fun ts h l => K .normal { σ with ts := ts, h := h, wl := σ.wl ++ l }) ts' c'.H lg' = some r → Q .normal a' c'.w :=
      fun c' ts' a' lg' hm ht hd hk => hK c' .normal { σ with ts := ts', h := c'.H, wl := σ.wl ++ lg' } a' _ hm rfl ⟨fun _ => ht, rfl, by rw [hd]; exact hs.ds.ext hm.ext⟩ hk
    have k2 : ∀ c' v val a' lg', Mv w0 c c' → VR c' v val → a'.defers = a.defers → (fun v h l => K (.panic v) { σ with h := h, wl := σ.wl ++ l }) v c'.H lg' = some r → Q (.panic [{ v := val, recovered := false }]) a' c'.w :=
      fun c' v val a' lg' hm hv hd hk => hK c' (.panic v) { σ with h := c'.H, wl := σ.wl ++ lg' } a' _ hm ⟨val, rfl, hv⟩ ⟨fun h => by simp [Ex.calm] at h, rfl, by rw [hd]; exact hs.ds.ext hm.ext⟩ hk
    cases d with
    | false =>
      rw [evCode, hs.h] at he
      exact wpIn_region_list (evOps_sound hE hO hg0 ops.toList c σ.ts a [] _ _ he hr h0 hs.ts rfl k1 k2)
    | true =>
      rw [evCode, hs.h] at he
      split at he
      · rename_i q hq
        exact hD.1 fno id ops σ.ts c.H q hq w0 ok0 ro n Q c a hg0 hr h0 rfl hs.ts fun c' a' hm hh ht hd => k1 c' q.1 a' q.2.2 hm ht hd (by simp only [hh]; exact he)
      · obtain ⟨hb, he⟩ := bif_some he
        have hok : E.ok ops = true := by simpa [drOk, hb] using hdr
        exact hD.2 id ops ro n Q r c σ.ts a _ [] _ hok he hr h0 hs.ts rfl k1
  | .seq x y, hdr, Q, c, σ, a, K, he, hr, h0, hs, hK => by
    simp only [drOk, Bool.and_eq_true] at hdr
    rw [evCode] at he
    refine wpIn_seq (evCode_sound hE hO hg0 hD hro x hdr.1 _ c σ a _ he hr h0 hs fun c' x σ' a' e hm hx hfe hk => ?_)
    cases x with
    | normal =>
      rw [show e = .normal from hx]
      exact evCode_sound hE hO hg0 hD hro y hdr.2 _ c' σ' a' _ hk hm.rel (hm.ok0.trans h0) ⟨hfe.ts rfl, hfe.h, hfe.ds⟩ fun c'' x' σ'' a'' e' hm' => hK c'' x' σ'' a'' e' (hm.trans hm')
    | exit i => rw [show e = .exit i from hx]; exact hK c' (.exit i) σ' a' _ hm rfl hfe hk
    | goto l => rw [show e = .goto l from hx]; exact hK c' (.goto l) σ' a' _ hm rfl hfe hk
    | ret => rw [show e = .ret from hx]; exact hK c' .ret σ' a' _ hm rfl hfe hk
    | panic v =>
      obtain ⟨z, rfl, hv⟩ := hx
      exact hK c' (.panic v) σ' a' _ hm ⟨z, rfl, hv⟩ hfe hk
  | .cond g x y, hdr, Q, c, σ, a, K, he, hr, h0, hs, hK => by
    simp only [drOk, Bool.and_eq_true] at hdr
    rw [evCode] at he
    split at he
    · rename_i t ht
      have hg : GOk E c.w c.ok := hg0.keeps (h0 ▸ rel_keeps hr)
      have hv := opd_sound hg hs.ts g
      rw [ht, VR] at hv
      have hv := dBool_inv hv
      cases t with
      | true => exact wpIn_cond_true hv (evCode_sound hE hO hg0 hD hro x hdr.1 _ c σ a _ he hr h0 hs hK)
      | false => exact wpIn_cond_false hv (evCode_sound hE hO hg0 hD hro y hdr.2 _ c σ a _ he hr h0 hs hK)
    · exact absurd he (by simp)
  | .block id x, hdr, Q, c, σ, a, K, he, hr, h0, hs, hK => by
    rw [drOk] at hdr
    rw [evCode] at he
    refine wpIn_block (evCode_sound hE hO hg0 hD hro x hdr _ c σ a _ he hr h0 hs fun c' x σ' a' e hm hx hfe hk => ?_)
    cases x with
    | normal => rw [show e = .normal from hx]; exact hK c' .normal σ' a' _ hm rfl hfe hk
    | exit i =>
      rw [show e = .exit i from hx]
      simp only at hk
      show if i = id then Q .normal a' c'.w else Q (.exit i) a' c'.w
      split at hk
      · rename_i hi; rw [if_pos hi]; exact hK c' .normal σ' a' _ hm rfl ⟨fun _ => hfe.ts rfl, hfe.h, hfe.ds⟩ hk
      · rename_i hi; rw [if_neg hi]; exact hK c' (.exit i) σ' a' _ hm rfl hfe hk
    | goto l => rw [show e = .goto l from hx]; exact hK c' (.goto l) σ' a' _ hm rfl hfe hk
    | ret => rw [show e = .ret from hx]; exact hK c' .ret σ' a' _ hm rfl hfe hk
    | panic v =>
      obtain ⟨z, rfl, hv⟩ := hx
      exact hK c' (.panic v) σ' a' _ hm ⟨z, rfl, hv⟩ hfe hk
  | .loop x, hdr, Q, c, σ, a, K, he, hr, h0, hs, hK => by
    rw [drOk] at hdr
    rw [evCode] at he
    rw [hs.h] at he
    refine wpIn_loop_rounds k (evLoop_sound (c0 := c) rfl ?_ k c _ a _ he (Mv.refl hr) ⟨hs.ts.clrT _, hs.h, hs.ds⟩ fun c' x' σ' a' e hm hx hfe hk => ?_)
    rotate_left
    · have go : x'.calm = true → (∀ c'' : Cx, ExR c' x' e → ExR c'' x' e) → gcX (E.kp fno (keyOf x)) c.H.length x' σ' = gcT (E.kp fno (keyOf x)) c.H.length σ' → Q e a' c'.w := by
        intro hc hx' hg
        rw [hg] at hk
        obtain ⟨c'', h1, h2, h3, h4, h5⟩ := gcT_sound hm (E.kp fno (keyOf x)) rfl (hfe.ts hc) hfe.h hfe.ds
        rw [← h2]
        exact hK c'' x' _ a' e h1 (hx' c'' hx) ⟨fun _ => h3, h4, h5⟩ hk
      cases x' with
      | panic v =>
        unfold gcX at hk
        simp only at hk
        have hn := hm.ext.len
        cases hb : rb c.H.length v && ((σ'.h.take c.H.length).all (rbB c.H.length) && σ'.df.all (fun d => decide (d < c.H.length))) with
        | false =>
          simp only [hb, cond_false] at hk
          exact hK c' (.panic v) { σ' with ts := [] } a' e hm hx ⟨fun h => by simp [Ex.calm] at h, hfe.h, hfe.ds⟩ hk
        | true =>
          simp only [hb, cond_true] at hk
          simp only [Bool.and_eq_true] at hb
          obtain ⟨hb1, hb2, hb3⟩ := hb
          rw [hfe.h] at hb2
          obtain ⟨z, rfl, hv⟩ := hx
          exact hK (c'.trunc c.H.length) (.panic v) { ts := [], h := σ'.h.take c.H.length, df := σ'.df, wl := σ'.wl.filter (fun b => decide (b < c.H.length)) } a' _ (trunc_mvm hm (Nat.le_refl _) hn hb2) ⟨z, rfl, VR.trunc hn v z hb1 hv⟩ ⟨fun h => by simp [Ex.calm] at h, by show σ'.h.take _ = _; rw [hfe.h]; rfl, DF.trunc hn _ _ hb3 hfe.ds⟩ hk
      | normal => exact go rfl (fun _ h => h) rfl
      | exit i => exact go rfl (fun _ h => h) rfl
      | goto l => exact go rfl (fun _ h => h) rfl
      | ret => exact go rfl (fun _ h => h) rfl
    intro c' σ' a' K' Q' he' hm' hs' hK'
    exact evCode_sound hE hO hg0 hD hro x hdr Q' c' σ' a' K' he' hm'.rel (hm'.ok0.trans h0) hs' fun c'' x' σ'' a'' e' hm'' => hK' c'' x' σ'' a'' e' (hm'.trans hm'')
  | .rangeFunc g ps x y, hdr, Q, c, σ, a, K, he, hr, h0, hs, hK => by
    simp only [drOk, Bool.and_eq_true] at hdr
    rw [evCode] at he
    cases inR with
    | true => simp at he
    | false =>
      have hro := hro rfl
      subst hro
      simp only [cond_false] at he
      split at he
      · rename_i f caps hf
        have hg : GOk E c.w c.ok := hg0.keeps (h0 ▸ rel_keeps hr)
        have hv := opd_sound hg hs.ts g
        rw [hf, VR] at hv
        obtain ⟨cl, hcl, hcaps⟩ := hv
        rw [hs.h] at he
        -- the record is laid
        refine wpIn_rangeFunc fun fn _ => ?_
        let lp : Loop := { state := .ready, pending := none, fn, tmps := a.tmps, params := ps, assign := x, body := y, defers := c.w.heap.size }
        have m1 := laid_sound hr (hs.ts.clrT (E.kp fno (keyOf x))) (fno := fno) (fn := fn) (ps := ps) (x := x) (y := y)
        obtain ⟨c2, hm2, hH2, hw2, hb1, hb2⟩ := m1
        have hyl : VR c2 (.yl (c.H.length + 1)) (.func (.yield (c.w.heap.size + 1)) #[] #[]) := by
          rw [VR]
          exact ⟨⟨_, rfl⟩, by rw [hH2]; simp, fun _ _ => by rw [hb2]⟩
        have hargs : VRs c2 (.yl (c.H.length + 1) :: caps) (.func (.yield (c.w.heap.size + 1)) #[] #[] :: cl) := by
          rw [VRs]
          exact ⟨_, _, rfl, hyl, VRs.ext hm2.ext _ _ hcaps⟩
        rw [← hH2] at he
        have hDF : DF c2 (c.H.length :: σ.df) ([{ target := .collected c.w.heap.size, args := #[] }] ++ a.defers) :=
          ⟨_, _, _, rfl, rfl, by rw [hH2]; simp, fun _ => hb1, hs.ds.ext hm2.ext⟩
        obtain ⟨⟨fnr, q1, q2, q3⟩, q4⟩ := hO.call c2 f _ _ _ r (rangePost (W none) n P (c.w.heap.size + 1) Q { a with defers := [{ target := .collected c.w.heap.size, args := #[] }] ++ a.defers }) hm2.rel (hm2.ok0.trans h0) he hargs (by
          intro c3 out e lg hm3 hov hk
          have hm := hm2.trans hm3
          split at hk
          · rename_i r3 hr3
            have hb3 : c3.bs.getD (c.H.length + 1) 0 = c.w.heap.size + 1 := by
              obtain ⟨z, hz, hgo⟩ := hm3.ext.back (by rw [hH2]; simp) hr3
              obtain ⟨_, _, e2⟩ := hgo.loop
              rw [e2, hb2]
            have hTS := hs.ts.ext hm.ext
            have hDF3 := hDF.ext hm3.ext
            cases out with
            | pan v =>
              obtain ⟨z, rfl, hv⟩ := hov
              refine hK c3 (.panic v) { σ with h := c3.H, df := c.H.length :: σ.df, wl := σ.wl ++ lg } { a with defers := [{ target := .collected c.w.heap.size, args := #[] }] ++ a.defers } _ hm ⟨z, rfl, hv⟩ ⟨fun h => by simp [Ex.calm] at h, rfl, ?_⟩ hk
              exact hDF3
            | ret v =>
              obtain ⟨z, rfl, hv⟩ := hov
              obtain ⟨lp3, p1, p2, p3, p4⟩ := hm3.rel.blk _ _ hr3
              simp only at hk
              have go : r3.state ≠ .busy → ∀ (x' : Ex) (e' : Exit), x'.calm = true → ExR (c3.turn (c.H.length + 1) (.loop { r3 with state := .exhausted }) (c3.w.putObj (c3.bs.getD (c.H.length + 1) 0) (.loop { lp3 with state := .exhausted }))) x' e' →
                  K x' { σ with h := c3.H.set (c.H.length + 1) (.loop { r3 with state := .exhausted }), df := c.H.length :: σ.df, wl := σ.wl ++ lg } = some r →
                  Q e' { a with defers := [{ target := .collected c.w.heap.size, args := #[] }] ++ a.defers } (c3.w.putObj (c.w.heap.size + 1) (.loop { lp3 with state := .exhausted })) := by
                intro hnb x' e' hc hx hk
                have hm4 := loop_turn hm3.rel hr3 p1 .exhausted r3.pending (lp' := { lp3 with state := .exhausted }) rfl p3 p4.1 p4.2
                have := hK _ x' { σ with h := c3.H.set (c.H.length + 1) (.loop { r3 with state := .exhausted }), df := c.H.length :: σ.df, wl := σ.wl ++ lg } { a with defers := [{ target := .collected c.w.heap.size, args := #[] }] ++ a.defers } e' (hm.trans hm4) hx ⟨fun _ => hTS.ext hm4.ext, rfl, hDF3.ext hm4.ext⟩ hk
                rw [← hb3]
                exact this
              have run : r3.state ≠ .busy → (Instr.endLoop (c.w.heap.size + 1)).run P c3.w = .ok r3.pending (c3.w.putObj (c.w.heap.size + 1) (.loop { lp3 with state := .exhausted })) := by
                intro hnb
                rw [hb3] at p1
                have := run_endLoop (P := P) p1 (by rw [p2]; exact hnb)
                rw [this, p3]
              split at hk
              · exact absurd hk (by simp)
              · rename_i hnb
                refine ⟨_, _, run hnb, ?_⟩
                split at hk
                · rename_i hp; rw [hp]; exact go hnb .normal .normal rfl rfl hk
                · rename_i hp; rw [hp]; exact wpIn_ret (go hnb .ret .ret rfl rfl hk)
                · rename_i i hp; rw [hp]; exact wpIn_exit (go hnb (.exit i) (.exit i) rfl rfl hk)
                · exact absurd hk (by simp)
          · exact absurd hk (by simp))
        obtain ⟨bd, q5⟩ := Option.isSome_iff_exists.1 q3
        refine ⟨c.w.heap.size + 1, [{ target := .collected c.w.heap.size, args := #[] }], c2.w, { target := .fn (.func f) cl.toArray, args := #[.func (.yield (c.w.heap.size + 1)) #[] #[]] }, c2.w, f, (.func (.yield (c.w.heap.size + 1)) #[] #[] :: cl).toArray, c2.w, by rw [hw2]; exact run_enterLoop_outer fn a.tmps ps x y, ?_, fun _ _ => trivial, ?_, fun h => by simp [W, Fence.wide] at h, callsW.2 q4⟩
        · have e0 : ∀ v : Value, a.eval (.const v) = v := fun v => rfl
          have e1 : (#[Operand.const (.func (.yield (c.w.heap.size + 1)) #[] #[])]).map a.eval = #[.func (.yield (c.w.heap.size + 1)) #[] #[]] := by apply Array.ext'; simp [e0]
          simp only [resolve, hcl, e1]
          simp [Deferred.ofValue]
        · have e1 : (#[.func (.yield (c.w.heap.size + 1)) #[] #[]] : Array Value) ++ cl.toArray = (.func (.yield (c.w.heap.size + 1)) #[] #[] :: cl).toArray := by apply Array.ext'; simp
          simp only [invoke, e1]
          simp [callFunc, q1, q2, q5]
      · exact absurd he (by simp)
  | .scope x, hdr, Q, c, σ, a, K, he, hr, h0, hs, hK => by
    rw [drOk] at hdr
    rw [evCode] at he
    refine wpIn_scope (evCode_sound hE hO hg0 hD hro x hdr _ c σ a _ he hr h0 hs fun c' x σ' a' e hm hx hfe hk => ?_)
    cases x with
    | normal => rw [show e = .normal from hx]; exact hK c' .normal σ' a' _ hm rfl hfe hk
    | exit i => rw [show e = .exit i from hx]; exact hK c' (.exit i) σ' a' _ hm rfl hfe hk
    | goto l => cases hk
    | ret => rw [show e = .ret from hx]; exact hK c' .ret σ' a' _ hm rfl hfe hk
    | panic v =>
      obtain ⟨z, rfl, hv⟩ := hx
      exact hK c' (.panic v) σ' a' _ hm ⟨z, rfl, hv⟩ hfe hk

end
end Go.Fy

set_option linter.unusedVariables false
namespace Go.Fy
open Go.RowKit

/-- A result's value. -/
def resM (tm : Array Value) : ResultVar → Sem Value
  | .tmp t => pure (tm.getD t undef)
  | .cell a t => do loadVar t (← asAddr (tm.getD a undef))

theorem results_eq (fn : Func) (tm : Array Value) : results fn tm = (do let vs ← fn.results.mapM (resM tm); pure (if h : vs.size = 1 then vs[0] else .tuple vs)) := by
  unfold results
  congr 1

section
variable {P : Program} {E : Env} {c : Cx} {w0 : World} {ok0 : Nat → Prop} {ρ : Type} {r : ρ} {orc : Orc ρ}

theorem loadVar_of (hE : EnvOk P E) {t : Nat} {ti : TI} (ht : E.tt t = some ti) (hr : Rel w0 c) {p v : PV} {pv : Value} (hp : VR c p pv) (he : loadA c.H ti p some = some v) :
    ∃ val, VR c v val ∧ (do loadVar t (← asAddr pv) : Sem Value).run P c.w = .ok val c.w := by
  obtain ⟨v', val, h1, h2, h3⟩ := loadA_sound (hE.tt t ti ht) hr hp he
  injection h1 with h1
  subst h1
  refine ⟨val, h2, ?_⟩
  have hpv : ∃ ad, pv = .pointer (some ad) := by
    unfold loadA at he
    cases p with
    | pt b i => rw [VR] at hp; exact hp.1
    | pe b i ver j q => rw [VR] at hp; exact hp.1
    | ce t x q => rw [VR] at hp; obtain ⟨_, _, _, e, _⟩ := hp; exact ⟨_, e⟩
    | _ => exact absurd he (by simp)
  obtain ⟨ad, rfl⟩ := hpv
  simp only [Instr.loadAt, Instr.sureAddr, Sem.run_bind, Sem.run_pure, Result.andThen_ok] at h3
  simp only [asAddr, Sem.run_bind, Sem.run_pure, Result.andThen_ok]
  exact h3

theorem resVs_sound (hE : EnvOk P E) (hr : Rel w0 c) {ts : List PV} {tm : Array Value} (ht : TS c ts tm) : ∀ (rs : List ResultVar) (vs : List PV), resVs E ts c.H rs = some vs →
    ∃ l, VRs c vs l ∧ (rs.mapM (resM tm)).run P c.w = .ok l c.w
  | [], vs, h => by
    simp only [resVs, Option.some.injEq] at h
    subst h
    exact ⟨[], by rw [VRs], by simp⟩
  | x :: rs, vs, h => by
    unfold resVs at h
    split at h
    · rename_i v hv
      split at h
      · rename_i vs' hvs
        injection h with h
        subst h
        obtain ⟨l, h1, h2⟩ := resVs_sound hE hr ht rs vs' hvs
        cases x with
        | tmp t =>
          simp only [resV, Option.some.injEq] at hv
          subst hv
          refine ⟨tm.getD t undef :: l, ?_, ?_⟩
          · rw [VRs]; exact ⟨_, _, rfl, ht.2 t, h1⟩
          · simp only [List.mapM_cons, resM, Sem.run_bind, Sem.run_pure, Result.andThen_ok]
            rw [h2]
            rfl
        | cell a t =>
          simp only [resV] at hv
          split at hv
          · rename_i ti hti
            obtain ⟨val, h3, h4⟩ := loadVar_of hE hti hr (ht.2 a) hv
            refine ⟨val :: l, ?_, ?_⟩
            · rw [VRs]; exact ⟨_, _, rfl, h3, h1⟩
            · have h5 : (resM tm (.cell a t)).run P c.w = .ok val c.w := h4
              simp only [List.mapM_cons, Sem.run_bind, h5, Result.andThen_ok]
              rw [h2]
              rfl
          · exact absurd hv (by simp)
      · exact absurd h (by simp)
    · exact absurd h (by simp)

theorem results_sound (hE : EnvOk P E) (hr : Rel w0 c) {ts : List PV} {tm : Array Value} (ht : TS c ts tm) {fn : Func} {vs : List PV} (h : resVs E ts c.H fn.results.toList = some vs) :
    ∃ v, VR c (one vs) v ∧ (results fn tm).run P c.w = .ok v c.w := by
  obtain ⟨l, h1, h2⟩ := resVs_sound hE hr ht _ vs h
  have h3 : (results fn tm).run P c.w = .ok (if h : l.toArray.size = 1 then l.toArray[0] else .tuple l.toArray) c.w := by
    rw [results_eq, Array.mapM_eq_mapM_toList]
    simp only [bind_pure_comp, Sem.run_map, h2]
    rfl
  refine ⟨_, ?_, h3⟩
  match vs, l, h1 with
  | [], l, h1 => rw [VRs] at h1; subst h1; rw [one, VR]; exact ⟨[], rfl, by rw [VRs]⟩; simp
  | [v], l, h1 =>
    rw [VRs] at h1
    obtain ⟨x, r, rfl, hx, hn⟩ := h1
    rw [VRs] at hn
    subst hn
    exact hx
  | v :: u :: vs, l, h1 =>
    have h1' := h1
    rw [VRs] at h1
    obtain ⟨x, r, rfl, hx, hn⟩ := h1
    rw [VRs] at hn
    obtain ⟨y, r, rfl, _, _⟩ := hn
    rw [dif_neg (by simp), one, VR]
    · exact ⟨_, rfl, h1'⟩
    · simp

theorem VRs.length : ∀ {ps : List PV} {l : List Value}, VRs c ps l → ps.length = l.length
  | [], l, h => by rw [VRs] at h; rw [h]; rfl
  | p :: ps, l, h => by
    rw [VRs] at h
    obtain ⟨v, r, rfl, _, h⟩ := h
    rw [List.length_cons, List.length_cons, VRs.length h]

theorem TS_args {as : List PV} {vs : List Value} (h : VRs c as vs) (k : Nat) : TS c (as ++ List.replicate (k - as.length) .un) (vs.toArray ++ Array.replicate (k - vs.toArray.size) undef) := by
  have hl := VRs.length h
  refine ⟨by simp [hl], fun i => ?_⟩
  have key : ∀ (as : List PV) (vs : List Value) (m i : Nat), VRs c as vs → VR c ((as ++ List.replicate m PV.un).getD i PV.un) ((vs ++ List.replicate m undef).getD i undef) := by
    intro as
    induction as with
    | nil =>
      intro vs m i h
      have e : ([] ++ List.replicate m PV.un).getD i PV.un = PV.un := by
        rw [List.nil_append, List.getD_eq_getElem?_getD, List.getElem?_replicate]
        split <;> rfl
      rw [e, VR]
      trivial
    | cons p ps ih =>
      intro vs m i h
      rw [VRs] at h
      obtain ⟨v, r, rfl, h1, h2⟩ := h
      cases i with
      | zero => exact h1
      | succ i => exact ih r m i h2
  have e : (vs.toArray ++ Array.replicate (k - vs.toArray.size) undef).getD i undef = (vs ++ List.replicate (k - as.length) undef).getD i undef := by
    rw [Array.getD_eq_getD_getElem?, List.getD_eq_getElem?_getD, ← Array.getElem?_toList]
    simp [hl]
  rw [e]
  exact key as vs _ i h

/-- The functions' code holds no drawn region but those that may be read as text. -/
def CodeOk (E : Env) : Prop := ∀ f fn b, E.fn f = some fn → fn.body = some b → drOk E.ok (E.dr f) b = true

theorem gcO_mv {c0 : Cx} (hm : Mv w0 c0 c) {v : OutV} {e : Ending} (hv : OutVR c v e) : ∃ c', Mv w0 c0 c' ∧ OutVR c' v e ∧ c'.H = gcO c0.H.length v c.H ∧ c'.w = c.w := by
  cases v with
  | ret v =>
    obtain ⟨x, e1, hx⟩ := hv
    cases hb : (c.H.take c0.H.length).all (rbB c0.H.length) && rb c0.H.length v with
    | true =>
      have hb' := hb
      simp only [Bool.and_eq_true] at hb'
      exact ⟨c.trunc c0.H.length, trunc_mv hm hb'.1, ⟨x, e1, hx.trunc hm.ext.len _ _ hb'.2⟩, by simp only [gcO, hb, cond_true]; rfl, rfl⟩
    | false => exact ⟨c, hm, ⟨x, e1, hx⟩, by simp only [gcO, hb, cond_false], rfl⟩
  | pan v =>
    obtain ⟨x, e1, hx⟩ := hv
    cases hb : (c.H.take c0.H.length).all (rbB c0.H.length) && rb c0.H.length v with
    | true =>
      have hb' := hb
      simp only [Bool.and_eq_true] at hb'
      exact ⟨c.trunc c0.H.length, trunc_mv hm hb'.1, ⟨x, e1, hx.trunc hm.ext.len _ _ hb'.2⟩, by simp only [gcO, hb, cond_true]; rfl, rfl⟩
    | false => exact ⟨c, hm, ⟨x, e1, hx⟩, by simp only [gcO, hb, cond_false], rfl⟩

theorem shut_sound {F : Fence} {n : Nat} {fn : Func} {tm : Array Value} {R : Ending → World → Prop} {u : FrameMode} (hu : u ≠ .run) : ∀ (df : List Nat) (c : Cx) (ds : List Deferred) (h' : List Blk), shut c.H df = some h' → Rel w0 c → DF c df ds →
    (∀ c', Mv w0 c c' → c'.H = h' → LeavesIn F n P fn tm R [] u c'.w) → LeavesInM F n P fn tm R ds u c.w
  | [], c, ds, h', hs, hr, hd, hK => by
    rw [show ds = [] from hd, LeavesInM]
    simp only [shut, Option.some.injEq] at hs
    exact hK c (Mv.refl hr) hs
  | i :: df, c, ds, h', hs, hr, ⟨d, ds', b, e, ht, hi, hb, hd⟩, hK => by
    subst e
    unfold shut at hs
    split at hs
    · rename_i hdefs
      have hbr := hr.blk i _ hdefs
      have hbs := hb hdefs
      have hbr' : c.w.heap[b]? = some (.deferred (some [])) := by rw [← hbs]; exact hbr
      have ht' := turns_putObj (x := .dead) hr hdefs (by simp) (.deferred none)
      have hm : Mv w0 c (c.turn i .dead (c.w.putObj (c.bs.getD i 0) (.deferred none))) := ⟨die_rel hr hdefs (by simp) ht', die_ext hr hdefs (by simp) ht', rfl⟩
      rw [LeavesInM]
      refine ⟨hu, .inl ⟨b, _, ht, run_takeDeferred hbr', ?_⟩⟩
      rw [← hbs]
      exact shut_sound hu df (c.turn i .dead (c.w.putObj (c.bs.getD i 0) (.deferred none))) ds' h' hs hm.rel (DF.ext hm.ext _ _ hd) fun c' hm' => hK c' (hm.trans hm')
    · exact absurd hs (by simp)

theorem evFn_sound (hE : EnvOk P E) (hO : OrcOk P w0 ok0 orc) (hg0 : GOk E w0 ok0) (hC : CodeOk E) (hD : DrawOk P E w0 ok0 orc E.ok) {k f : Nat} {as : List PV} {vs : List Value} {K : KO ρ}
    {R : Ending → World → Prop} (he : evFn E orc k f as c.H K = some r) (hr : Rel w0 c) (h0 : c.ok0 = ok0) (ha : VRs c as vs)
    (hR : ∀ c' out e lg, Mv w0 c c' → OutVR c' out e → K out c'.H lg = some r → R e c'.w) :
    (∃ fn, P.funcs[f]? = some fn ∧ fn.name ≠ "runtime.NumGoroutine" ∧ fn.body.isSome = true) ∧ Calls P f vs.toArray c.w R := by
  unfold evFn at he
  split at he
  · exact absurd he (by simp)
  · rename_i fn hfn
    obtain ⟨hf, hname⟩ := hE.fn f fn hfn
    split at he
    · exact absurd he (by simp)
    · rename_i b hb
      refine ⟨⟨fn, hf, hname, by rw [hb]; rfl⟩, callsW.1 (callsIn_of_wp_marks (F := W none) (n := 0) hf hb trivial ?_ rfl)⟩
      refine evCode_sound hE hO hg0 hD (ro := none) (fun _ => rfl) b (hC f fn b hfn hb) _ c _ _ _ he hr h0 ⟨TS_args ha _, rfl, rfl⟩ ?_
      intro c' x σ' a' e hm hx hfe hk
      split at hk
      · exact absurd hk (by simp)
      · rename_i h' hsh
        rw [hfe.h] at hsh
        have fin : ∀ (c'' : Cx) (v : OutV) (en : Ending) lg, Mv w0 c c'' → c''.H = h' → OutVR c'' v en → K v (gcO c.H.length v h') lg = some r → R en c''.w := by
          intro c'' v en lg hm' hH hv hk
          obtain ⟨c3, h1, h2, h3, h4⟩ := gcO_mv hm' hv
          rw [← hH, ← h3] at hk
          rw [← h4]
          exact hR c3 v en lg h1 h2 hk
        have done : ∀ vs', resVs E σ'.ts h' fn.results.toList = some vs' → x.calm = true → K (.ret (one vs')) (gcO c.H.length (.ret (one vs')) h') (σ'.wl.filter (fun b => decide (b < c.H.length))) = some r →
            LeavesInM (W none) 0 P fn a'.tmps R a'.defers .returning c'.w := by
          intro vs' hv hc hk
          refine shut_sound (by simp) _ c' _ h' hsh hm.rel hfe.ds fun c'' hm' hH => ?_
          rw [← hH] at hv
          obtain ⟨v, h1, h2⟩ := results_sound hE hm'.rel ((hfe.ts hc).ext hm'.ext) hv
          exact ⟨v, h2, fin c'' (.ret (one vs')) (.returned v) _ (hm.trans hm') hH ⟨v, rfl, h1⟩ hk⟩
        cases x with
        | normal =>
          rw [show e = .normal from hx]
          simp only at hk
          split at hk
          · rename_i vs' hv; exact done vs' hv rfl hk
          · exact absurd hk (by simp)
        | ret =>
          rw [show e = .ret from hx]
          simp only at hk
          split at hk
          · rename_i vs' hv; exact done vs' hv rfl hk
          · exact absurd hk (by simp)
        | panic v =>
          obtain ⟨y, rfl, hv⟩ := hx
          refine shut_sound (by simp) _ c' _ h' hsh hm.rel hfe.ds fun c'' hm' hH => ?_
          exact fin c'' (.pan v) _ _ (hm.trans hm') hH ⟨y, rfl, hv.ext hm'.ext _ _⟩ hk
        | exit i => exact absurd hk (by simp)
        | goto l => exact absurd hk (by simp)

/-! ### A round -/
theorem setP_sound : ∀ (ps : List Tmp) (as : List PV) (vs : List Value) (ts : List PV) (tm : Array Value), TS c ts tm → VRs c as vs →
    TS c (setP ts ps as) ((ps.zip vs).foldl (fun tmps (t, a) => tmps.setIfInBounds t a) tm)
  | [], as, vs, ts, tm, ht, _ => by cases as <;> simpa [setP] using ht
  | t :: ps, [], vs, ts, tm, ht, ha => by
    rw [VRs] at ha
    subst ha
    simpa [setP] using ht
  | t :: ps, p :: as, vs, ts, tm, ht, ha => by
    rw [VRs] at ha
    obtain ⟨v, r, rfl, h1, h2⟩ := ha
    rw [setP, List.zip_cons_cons, List.foldl_cons]
    refine setP_sound ps as r _ _ ?_ h2
    have := TS.put (a := { tmps := tm, defers := [] }) ht (some t) h1
    exact this

theorem VRs_TS : ∀ {ps : List PV} {l : List Value}, VRs c ps l → TS c ps l.toArray := by
  intro ps l h
  have := TS_args h 0
  simpa using this

theorem evRound_sound (hE : EnvOk P E) (hO : OrcOk P w0 ok0 orc) (hg0 : GOk E w0 ok0) (hD : DrawOk P E w0 ok0 orc E.ok) {k l : Nat} {as : List PV} {vs : List Value} {K : KO ρ}
    {R : Ending → World → Prop} (he : evRound E orc k l as c.H K = some r) (hr : Rel w0 c) (h0 : c.ok0 = ok0) (ha : VRs c as vs)
    (hR : ∀ c' out e lg, Mv w0 c c' → OutVR c' out e → K out c'.H lg = some r → R e c'.w) :
    (∃ x, c.H[l]? = some (.loop x)) ∧ ∃ l' f tmps assign body w', (Instr.yield (c.bs.getD l 0) vs.toArray).run P c.w = .ok (.round l' f tmps assign body) w' ∧ RoundIn Fence.wide 0 P l' f tmps assign body w' R := by
  unfold evRound at he
  split at he
  · rename_i la hla
    refine ⟨⟨la, hla⟩, ?_⟩
    obtain ⟨lp, p1, p2, p3, p4, p5, p6, p7⟩ := hr.blk l _ hla
    split at he
    · rename_i hcond
      obtain ⟨hlen, hd1, hd2⟩ := hcond
      have hsz : vs.toArray.size = lp.params.size := by
        rw [p5]
        simp only [List.size_toArray]
        rw [← hlen, VRs.length ha]
      -- the record's block, wherever the run has come to
      have hbs : ∀ c' r', Mv w0 c c' → c'.H[l]? = some (.loop r') → c'.bs.getD l 0 = c.bs.getD l 0 := by
        intro c' r' hm hx
        obtain ⟨z, hz, hgo⟩ := hm.ext.back (List.getElem?_eq_some_iff.1 hla).1 hx
        exact hgo.loop.choose_spec.2
      refine ⟨_, _, _, _, _, _, run_yield p1 hsz, roundIn_of_wpIn trivial ?_⟩
      rw [p6, p7]
      have hts : TS c (setP la.tmps la.params as) ((lp.params.zip vs.toArray).foldl (fun tmps (t, a) => tmps.setIfInBounds t a) lp.tmps) := by
        have := setP_sound la.params as vs la.tmps lp.tmps (by have := VRs_TS p4; simpa using this) ha
        rw [p5, ← Array.foldl_toList]
        simpa using this
      have hg' : ∀ c', Mv w0 c c' → c'.ok0 = ok0 := fun c' hm => hm.ok0.trans h0
      refine evCode_sound hE hO hg0 hD (inR := true) (ro := some (c.bs.getD l 0)) (fun h => by simp at h) la.assign hd1 _ c _ _ _ he hr h0 ⟨hts, rfl, rfl⟩ ?_
      intro c1 x σ a1 e hm1 hx hfe hk
      cases x with
      | normal =>
        rw [show e = .normal from hx]
        simp only at hk
        rw [hfe.h] at hk
        split at hk
        · rename_i r1 hr1
          split at hk
          · rename_i hst
            obtain ⟨lp1, q1, q2, q3, q4, q5⟩ := hm1.rel.blk l _ hr1
            have hm2 := loop_turn hm1.rel hr1 q1 .busy r1.pending (lp' := { lp1 with state := .busy }) rfl q3 q4 q5
            have hb1 := hbs c1 r1 hm1 hr1
            have q1' := q1
            rw [hb1] at q1'
            refine ⟨_, run_beginRound q1' (by rw [q2, hst]), ?_⟩
            have hm12 := hm1.trans hm2
            have key := evCode_sound (r := r) hE hO hg0 hD (inR := true) (ro := some (c.bs.getD l 0)) (n := 0) (fun h => by simp at h) la.body hd2 (roundPost P (c.bs.getD l 0) R) _ _ a1 _ hk hm12.rel (hg' _ hm12)
              ⟨(hfe.ts rfl).ext hm2.ext, rfl, hfe.ds.ext hm2.ext⟩ ?_
            · rw [hb1] at key
              exact key
            · intro c3 x2 σ2 a3 e2 hm3 hx2 hfe2 hk2
              rw [hfe2.h] at hk2
              split at hk2
              · rename_i r2 hr2
                have hm123 := hm12.trans hm3
                obtain ⟨lp2, s1, s2, s3, s4, s5⟩ := hm3.rel.blk l _ hr2
                have hb3 := hbs c3 r2 hm123 hr2
                have s1' := s1
                rw [hb3] at s1'
                have fin : ∀ j : Option Code, K (.ret (.d .bool j.isNone)) (gcO c.H.length (.ret (.d .bool j.isNone)) (c3.H.set l (.loop { r2 with state := if j.isNone then .ready else .done, pending := j })))
                      (l :: σ2.wl.filter (fun b => decide (b < c.H.length))) = some r →
                    ∃ v w', (Instr.endRound (c.bs.getD l 0) j).run P c3.w = .ok v w' ∧ R (.returned v) w' := by
                  intro j hk
                  refine ⟨_, _, run_endRound j s1', ?_⟩
                  have hm4 := loop_turn hm3.rel hr2 s1 (if j.isNone then .ready else .done) j (lp' := { lp2 with state := if j.isNone then .ready else .done, pending := j }) rfl rfl s4 s5
                  rw [hb3] at hm4
                  have hv : OutVR (c3.turn l (.loop { r2 with state := if j.isNone then .ready else .done, pending := j }) (c3.w.putObj (c.bs.getD l 0) (.loop { lp2 with state := if j.isNone then .ready else .done, pending := j })))
                      (.ret (.d .bool j.isNone)) (.returned (.bool j.isNone)) := ⟨_, rfl, dV (dBool _)⟩
                  obtain ⟨c5, t1, t2, t3, t4⟩ := gcO_mv (hm123.trans hm4) hv
                  rw [show c3.H.set l (.loop { r2 with state := if j.isNone then .ready else .done, pending := j }) = (c3.turn l (.loop { r2 with state := if j.isNone then .ready else .done, pending := j }) (c3.w.putObj (c.bs.getD l 0) (.loop { lp2 with state := if j.isNone then .ready else .done, pending := j }))).H from rfl, ← t3] at hk
                  have := hR c5 _ _ _ t1 t2 hk
                  rw [t4] at this
                  exact this
                cases x2 with
                | normal => rw [show e2 = .normal from hx2]; exact fin none hk2
                | ret => rw [show e2 = .ret from hx2]; exact fin (some .ret) hk2
                | exit i => rw [show e2 = .exit i from hx2]; exact fin (some (.exit i)) hk2
                | goto l => exact absurd hk2 (by simp)
                | panic v => exact absurd hk2 (by simp)
              · exact absurd hk2 (by simp)
          · exact absurd hk (by simp)
        · exact absurd hk (by simp)
      | exit i => exact absurd hk (by simp)
      | goto l => exact absurd hk (by simp)
      | ret => exact absurd hk (by simp)
      | panic v => exact absurd hk (by simp)
    · exact absurd he (by simp)
  · exact absurd he (by simp)

theorem orcN_sound (hE : EnvOk P E) (hg0 : GOk E w0 ok0) (hC : CodeOk E) (hD : ∀ orc : Orc ρ, OrcOk P w0 ok0 orc → DrawOk P E w0 ok0 orc E.ok) (k : Nat) : ∀ d, OrcOk P w0 ok0 (orcN (ρ := ρ) E k d)
  | 0 => ⟨fun c f as vs K r R _ _ he => by simp [orcN] at he, fun c l as vs K r R _ _ he => by simp [orcN] at he⟩
  | d + 1 =>
    have hO := orcN_sound hE hg0 hC hD k d
    ⟨fun c f as vs K r R hr h0 he ha hR => evFn_sound hE hO hg0 hC (hD _ hO) he hr h0 ha hR, fun c l as vs K r R hr h0 he ha hR => evRound_sound hE hO hg0 (hD _ hO) he hr h0 ha hR⟩

end
end Go.Fy

set_option linter.unusedVariables false
namespace Go.Fy
open Go.RowKit

section
variable {E : Env} {ρ : Type} {r : ρ} {orc : Orc ρ} {K : PV → Option ρ}

theorem intOp_q {op : BinOp} {k : IntKind} {a b : Int} (h : intOp op k a b K = some r) : ∃ v, K v = some r ∧ ∀ K' : PV → Option ρ, intOp op k a b K' = K' v := by
  cases op <;> simp only [intOp] at h ⊢ <;> first
    | exact ⟨_, h, fun _ => rfl⟩
    | (split at h
       · cases h
       · rename_i hb
         exact ⟨_, h, fun K' => by rw [if_neg hb]⟩)

theorem strOp_q {op : BinOp} {a b : List UInt8} (h : strOp op a b K = some r) : ∃ v, K v = some r ∧ ∀ K' : PV → Option ρ, strOp op a b K' = K' v := by
  cases op <;> simp only [strOp] at h ⊢ <;> first
    | exact ⟨_, h, fun _ => rfl⟩
    | (split at h
       · rename_i hb
         exact ⟨_, h, fun K' => by rw [if_pos hb]⟩
       · cases h)
    | cases h

theorem eqR_q {op : BinOp} {b : Bool} (h : eqR op b K = some r) : ∃ v, K v = some r ∧ ∀ K' : PV → Option ρ, eqR op b K' = K' v := by
  cases op <;> simp only [eqR] at h ⊢ <;> first
    | exact ⟨_, h, fun _ => rfl⟩
    | cases h

theorem binOpA_q {op : BinOp} {t : Nat} {k : Bool} {x y : PV} (h : binOpA E op t k x y K = some r) : ∃ v, K v = some r ∧ ∀ K' : PV → Option ρ, binOpA E op t k x y K' = K' v := by
  unfold binOpA at h ⊢
  split at h
  · rename_i k1 a k2 b
    cases hs : isSh op with
    | true => simp only [hs, cond_true] at h ⊢; exact intOp_q h
    | false =>
      simp only [hs, cond_false] at h ⊢
      split at h
      · rename_i hk; subst hk; simp only [if_true]; exact intOp_q h
      · cases h
  · exact strOp_q h
  · split at h
    · split at h
      · exact ⟨_, h, fun _ => by first | rfl | simp_all⟩
      · exact ⟨_, h, fun _ => by first | rfl | simp_all⟩
      · cases h
    · cases h
  · split at h
    · split at h
      · rename_i hn
        split at h
        · exact ⟨_, h, fun K' => by rw [if_pos hn]⟩
        · exact ⟨_, h, fun K' => by rw [if_pos hn]⟩
        · cases h
      · cases h
    · cases h
  · split at h
    · exact eqR_q h
    · cases h

theorem unOpA_q {op : UnOp} {x : PV} (h : unOpA op x K = some r) : ∃ v, K v = some r ∧ ∀ K' : PV → Option ρ, unOpA op x K' = K' v := by
  unfold unOpA at h ⊢
  split at h
  · exact intOp_q h
  · exact intOp_q h
  · exact ⟨_, h, fun _ => rfl⟩
  · cases h

theorem pickA_q {c a b : PV} (h : pickA c a b K = some r) : ∃ v, K v = some r ∧ ∀ K' : PV → Option ρ, pickA c a b K' = K' v := by
  unfold pickA at h ⊢
  split at h
  · rename_i t
    cases t with
    | true => exact ⟨_, h, fun _ => rfl⟩
    | false => exact ⟨_, h, fun _ => rfl⟩
  · cases h

theorem loadA_q {hp : List Blk} {ti : TI} {p : PV} (h : loadA hp ti p K = some r) : ∃ v, K v = some r ∧ ∀ K' : PV → Option ρ, loadA hp ti p K' = K' v := by
  have fin : ∀ us : List PV, (match valOf ti us with | some v => K v | none => none) = some r → ∃ v, K v = some r ∧ ∀ K' : PV → Option ρ, (match valOf ti us with | some v => K' v | none => none) = K' v := by
    intro us h
    split at h
    · exact ⟨_, h, fun K' => by first | rfl | simp_all⟩
    · cases h
  unfold loadA at h ⊢
  simp only at h ⊢
  split at h
  · split at h
    · exact fin _ h
    · cases h
  · split at h
    · split at h
      · exact fin _ h
      · cases h
    · split at h
      · rename_i hv
        obtain ⟨v, h1, h2⟩ := fin _ h
        exact ⟨v, h1, fun K' => by rw [if_pos hv]; exact h2 K'⟩
      · cases h
    · cases h
  · exact fin _ h
  · cases h

theorem cutK_q {lo hi : Option Int} {n : Nat} {k : Nat → Nat → Option ρ} (h : cutK lo hi n k = some r) : ∃ l u, k l u = some r ∧ ∀ k' : Nat → Nat → Option ρ, cutK lo hi n k' = k' l u := by
  unfold cutK at h ⊢
  split at h
  · rename_i hc; exact ⟨_, _, h, fun k' => by rw [if_pos hc]⟩
  · cases h

theorem convA_q {s d : Nat} {x : PV} (h : convA E s d x K = some r) : ∃ v, K v = some r ∧ ∀ K' : PV → Option ρ, convA E s d x K' = K' v := by
  unfold convA at h ⊢
  split at h
  · exact ⟨_, h, fun K' => by simp_all⟩
  · exact ⟨_, h, fun K' => by simp_all⟩
  · exact ⟨_, h, fun K' => by simp_all⟩
  · cases h

theorem assertA_q {t : Nat} {ok : Bool} {x : PV} (h : assertA E t ok x K = some r) : ∃ v, K v = some r ∧ ∀ K' : PV → Option ρ, assertA E t ok x K' = K' v := by
  unfold assertA at h ⊢
  split at h
  · rename_i ti hti
    split at h
    · cases h
    · rename_i t' v hne
      split at h
      · rename_i ht
        exact ⟨_, h, fun K' => by simp [ht]⟩
      · rename_i ht
        obtain ⟨hok, h⟩ := bif_some h
        split at h
        · rename_i z hz
          exact ⟨_, h, fun K' => by simp [ht, hok]⟩
        · cases h
    · rename_i hne
      obtain ⟨hok, h⟩ := bif_some h
      split at h
      · rename_i z hz
        exact ⟨_, h, fun K' => by simp [hok]⟩
      · cases h
    · cases h
  · cases h

theorem indexA_q {ti : TI} {x : PV} {i : Int} (h : indexA E ti x i K = some r) : ∃ v, K v = some r ∧ ∀ K' : PV → Option ρ, indexA E ti x i K' = K' v := by
  unfold indexA at h ⊢
  split at h
  · split at h
    · rename_i hi; exact ⟨_, h, fun K' => by simp_all⟩
    · cases h
  · split at h
    · split at h
      · split at h
        · exact ⟨_, h, fun K' => by simp_all⟩
        · cases h
      · cases h
    · cases h
  · cases h

theorem indexAddrA_q {hp : List Blk} {ti : TI} {x : PV} {i : Int} (h : indexAddrA E hp ti x i K = some r) : ∃ v, K v = some r ∧ ∀ K' : PV → Option ρ, indexAddrA E hp ti x i K' = K' v := by
  unfold indexAddrA at h ⊢
  split at h
  · split at h
    · cases h
    · split at h
      · split at h
        · split at h
          · exact ⟨_, h, fun K' => by simp_all⟩
          · cases h
        · cases h
      · split at h
        · split at h
          · split at h
            · exact ⟨_, h, fun K' => by simp_all⟩
            · cases h
          · cases h
        · cases h
      · split at h
        · split at h
          · split at h
            · split at h
              · exact ⟨_, h, fun K' => by simp_all⟩
              · cases h
            · cases h
          · cases h
        · cases h
      · cases h
  · split at h
    · cases h
    · split at h
      · split at h
        · split at h
          · split at h
            · split at h
              · exact ⟨_, h, fun K' => by simp_all⟩
              · cases h
            · cases h
          · cases h
        · cases h
      · split at h
        · split at h
          · split at h
            · exact ⟨_, h, fun K' => by simp_all⟩
            · cases h
          · cases h
        · cases h
      · cases h
  · cases h

theorem sliceA_q {hp : List Blk} {ti : TI} {x : PV} {lo hi : Option Int} (h : sliceA E hp ti x lo hi K = some r) : ∃ v, K v = some r ∧ ∀ K' : PV → Option ρ, sliceA E hp ti x lo hi K' = K' v := by
  unfold sliceA at h ⊢
  split at h
  · obtain ⟨l, u, h1, h2⟩ := cutK_q h
    exact ⟨_, h1, fun K' => by simp_all⟩
  · obtain ⟨he, h⟩ := bif_some h
    obtain ⟨l, u, h1, h2⟩ := cutK_q h
    exact ⟨_, h1, fun K' => by simp_all⟩
  · obtain ⟨he, h⟩ := bif_some h
    obtain ⟨l, u, h1, h2⟩ := cutK_q h
    exact ⟨_, h1, fun K' => by simp_all⟩
  · split at h
    · split at h
      · obtain ⟨he, h⟩ := bif_some h
        obtain ⟨l, u, h1, h2⟩ := cutK_q h
        split at h1
        · exact ⟨_, h1, fun K' => by simp_all⟩
        · rename_i hl0
          split at h1
          · exact ⟨_, h1, fun K' => by simp_all⟩
          · rename_i hlu
            exact ⟨_, h1, fun K' => by simp only [if_false, if_true, cond_true, *]⟩
      · cases h
    · cases h
  · split at h
    · split at h
      · split at h
        · obtain ⟨he, h⟩ := bif_some h
          obtain ⟨l, u, h1, h2⟩ := cutK_q h
          split at h1
          · exact ⟨_, h1, fun K' => by simp_all⟩
          · cases h1
        · cases h
      · cases h
    · cases h
  · split at h
    · split at h
      · obtain ⟨he, h⟩ := bif_some h
        obtain ⟨l, u, h1, h2⟩ := cutK_q h
        split at h1
        · exact ⟨_, h1, fun K' => by simp_all⟩
        · cases h1
      · cases h
    · cases h
  · cases h

end
end Go.Fy

set_option linter.unusedVariables false
namespace Go.Fy
open Go.RowKit

/-- No panic is borne. -/
def nKV {ρ : Type} : KV ρ := fun _ _ _ => none

/-- Neither looks at the heap nor changes it. -/
def isFree (o : Op) : Bool := match o with
  | .move _ => true
  | .assign _ => true
  | .pick _ _ _ => true
  | .binOp _ _ _ _ _ => true
  | .unOp _ _ _ => true
  | .convert _ _ _ => true
  | .makeInterface _ _ => true
  | .makeFunc _ _ _ => true
  | .extract _ _ => true
  | .nilCheck _ => true
  | .index _ _ _ => true
  | .field _ _ _ => true
  | .build _ _ => true
  | .typeAssert _ _ _ _ => true
  | .call c => match c.callee with
    | .builtin .max => true
    | .builtin .min => true
    | _ => false
  | _ => false

/-- Does not change the heap. -/
def isQ (E : Env) (o : Op) : Bool := isFree o || match o with
  | .load _ _ => true
  | .fieldAddr _ _ _ => true
  | .indexAddr _ _ _ => true
  | .slice _ _ _ _ _ => true
  | .call c => match c.callee with
    | .builtin .len => true
    | .value (.func f) => match E.con f with
      | some k => k.res.all noSl
      | none => false
    | _ => false
  | _ => false

section
variable {E : Env} {ρ : Type} {r : ρ} {orc : Orc ρ}

/-- One value, whatever comes after. -/
def OV (E : Env) (orc : Orc ρ) (ts : List PV) (h : List Blk) (o : Oper) (v : PV) : Prop := ∀ K : KV ρ, evOp E orc ts h o K nKV = K v h []

theorem free_val {o : Oper} (hq : isFree o.op = true) {ts : List PV} {h : List Blk} {K : KV ρ} (he : evOp E orc ts h o K nKV = some r) : ∃ v, K v h [] = some r ∧ ∀ h', OV E orc ts h' o v := by
  unfold OV
  unfold evOp at he ⊢
  simp only at he ⊢
  cases hop : o.op <;> simp only [hop, isFree] at hq he ⊢ <;> first | (cases hq; done) | skip
  case move x => exact ⟨_, he, fun _ _ => rfl⟩
  case assign x => exact ⟨_, he, fun _ _ => rfl⟩
  case pick a b c => obtain ⟨v, h1, h2⟩ := pickA_q he; exact ⟨v, h1, fun h' K' => h2 _⟩
  case binOp => obtain ⟨v, h1, h2⟩ := binOpA_q he; exact ⟨v, h1, fun h' K' => h2 _⟩
  case unOp => obtain ⟨v, h1, h2⟩ := unOpA_q he; exact ⟨v, h1, fun h' K' => h2 _⟩
  case convert => obtain ⟨v, h1, h2⟩ := convA_q he; exact ⟨v, h1, fun h' K' => h2 _⟩
  case typeAssert => obtain ⟨v, h1, h2⟩ := assertA_q he; exact ⟨v, h1, fun h' K' => h2 _⟩
  case makeInterface t x =>
    split at he
    · split at he
      · cases he
      · rename_i hne
        exact ⟨_, he, fun h' K' => by first | rfl | simp_all⟩
    · cases he
  case makeFunc f a b =>
    cases f <;> simp only at he ⊢ <;> first | cases he | skip
    split at he
    · rename_i hh; exact ⟨_, he, fun h' K' => by rw [if_pos hh]⟩
    · cases he
  case extract t i =>
    split at he
    · split at he
      · exact ⟨_, he, fun h' K' => by first | rfl | simp_all⟩
      · cases he
    · cases he
  case nilCheck x =>
    split at he
    · exact ⟨_, he, fun h' K' => by first | rfl | simp_all⟩
    · exact ⟨_, he, fun h' K' => by first | rfl | simp_all⟩
    · exact ⟨_, he, fun h' K' => by first | rfl | simp_all⟩
    · cases he
  case index t x i =>
    split at he
    · obtain ⟨v, h1, h2⟩ := indexA_q he
      exact ⟨v, h1, fun h' K' => by first | exact h2 _ | simp_all⟩
    · cases he
  case field t x f =>
    split at he
    · split at he
      · exact ⟨_, he, fun h' K' => by first | rfl | simp_all⟩
      · cases he
    · cases he
  case build t ps =>
    split at he
    · split at he
      · exact ⟨_, he, fun h' K' => by first | rfl | simp_all⟩
      · cases he
    · cases he
  case call c =>
    cases hc : c.callee with
    | value f => simp [hc] at hq
    | invoke a b => simp [hc] at hq
    | builtin b =>
      simp only [hc] at hq he ⊢
      cases b <;> simp only at hq he ⊢ <;> first | (cases hq; done) | skip
      · unfold builtinA at he ⊢
        simp only at he ⊢
        split at he
        · exact ⟨_, he, fun h' K' => by first | rfl | simp_all⟩
        · cases he
      · unfold builtinA at he ⊢
        simp only at he ⊢
        split at he
        · exact ⟨_, he, fun h' K' => by first | rfl | simp_all⟩
        · cases he

theorem con_val {k : Con} (hn : k.res.all noSl = true) {as : List PV} {h : List Blk} {K : KV ρ}
    (he : callCon k as h (fun out h' lg => match out with | .ret v => K v h' lg | .pan v => nKV v h' lg) = some r) :
    ∃ v, K v h [] = some r ∧ ∀ K' : KV ρ, callCon k as h (fun out h' lg => match out with | .ret v => K' v h' lg | .pan v => nKV v h' lg) = K' v h [] := by
  unfold callCon at he ⊢
  split at he
  · cases he
  · rename_i xs hxs
    simp only [hn, cond_true] at he ⊢
    split at he
    · cases he
    · exact ⟨_, he, fun K' => by first | rfl | simp_all⟩
    · obtain ⟨_, he⟩ := bif_some he
      cases he

theorem quiet_val {o : Oper} (hq : isQ E o.op = true) {ts : List PV} {h : List Blk} {K : KV ρ} (he : evOp E orc ts h o K nKV = some r) : ∃ v, K v h [] = some r ∧ OV E orc ts h o v := by
  cases hf : isFree o.op with
  | true => obtain ⟨v, h1, h2⟩ := free_val hf he; exact ⟨v, h1, h2 h⟩
  | false =>
    unfold OV
    simp only [isQ, hf, Bool.false_or] at hq
    unfold evOp at he ⊢
    simp only at he ⊢
    cases hop : o.op <;> simp only [hop] at hq he ⊢ <;> first | (cases hq; done) | skip
    case load t x =>
      split at he
      · obtain ⟨v, h1, h2⟩ := loadA_q he
        exact ⟨v, h1, fun K' => by first | exact h2 _ | simp_all⟩
      · cases he
    case fieldAddr t x f =>
      split at he
      · split at he
        · exact ⟨_, he, fun K' => by first | rfl | simp_all⟩
        · cases he
      · cases he
    case indexAddr t x i =>
      split at he
      · obtain ⟨v, h1, h2⟩ := indexAddrA_q he
        exact ⟨v, h1, fun K' => by first | exact h2 _ | simp_all⟩
      · cases he
    case slice t x lo hi mx =>
      cases mx with
      | some m => simp at he
      | none =>
        simp only at he ⊢
        split at he
        · split at he
          · rename_i hlo hhi
            obtain ⟨v, h1, h2⟩ := sliceA_q he
            exact ⟨v, h1, fun K' => by first | exact h2 _ | (simp only [hlo, hhi]; exact h2 _) | simp_all⟩
          · cases he
        · cases he
    case call c =>
      cases hc : c.callee with
      | invoke a b => simp [hc] at hq
      | builtin b =>
        simp only [hc] at hq he ⊢
        cases b <;> simp only at hq he ⊢ <;> first | (cases hq; done) | skip
        unfold builtinA at he ⊢
        split at he
        · split at he
          · split at he
            · exact ⟨_, he, fun K' => by first | rfl | simp_all⟩
            · cases he
          · cases he
        all_goals first | cases he | simp_all
      | value f =>
        simp only [hc] at hq he ⊢
        cases f <;> simp only at hq he ⊢ <;> first | (cases hq; done) | skip
        rename_i g
        split at hq
        · rename_i k hk
          unfold callA at he ⊢
          simp only [opd, hk] at he ⊢
          exact con_val hq he
        · cases hq

end
end Go.Fy

set_option linter.unusedVariables false
namespace Go.Fy
open Go.RowKit

/-- An oracle goes on with what it is given, in one way. -/
structure OrcX {ρ : Type} (orc : Orc ρ) : Prop where
  call : ∀ f as h (K : KO ρ) r, orc.call f as h K = some r → ∃ out h' lg, K out h' lg = some r ∧ ∀ K', orc.call f as h K' = K' out h' lg
  round : ∀ l as h (K : KO ρ) r, orc.round l as h K = some r → ∃ out h' lg, K out h' lg = some r ∧ ∀ K', orc.round l as h K' = K' out h' lg

section
variable {E : Env} {ρ : Type} {r : ρ} {orc : Orc ρ}

def KX (F : KV ρ → KV ρ → Option ρ) (K KP : KV ρ) (r : ρ) : Prop :=
  (∃ v h' lg, K v h' lg = some r ∧ ∀ K' KP', F K' KP' = K' v h' lg) ∨ ∃ v h' lg, KP v h' lg = some r ∧ ∀ K' KP', F K' KP' = KP' v h' lg

theorem callCon_x {k : Con} {as : List PV} {h : List Blk} {K : KO ρ} (he : callCon k as h K = some r) : ∃ out h' lg, K out h' lg = some r ∧ ∀ K' : KO ρ, callCon k as h K' = K' out h' lg := by
  unfold callCon at he ⊢
  split at he
  · cases he
  · rename_i xs hxs
    cases hn : k.res.all noSl with
    | true =>
      simp only [hn, cond_true] at he ⊢
      split at he
      · cases he
      · exact ⟨_, _, _, he, fun K' => by first | rfl | simp_all⟩
      · obtain ⟨hτ, he⟩ := bif_some he
        exact ⟨_, _, _, he, fun K' => by first | rfl | simp_all⟩
    | false =>
      simp only [hn, cond_false] at he ⊢
      cases ha : as.any isAr with
      | true => simp [ha] at he
      | false =>
        simp only [ha, cond_false] at he ⊢
        split at he
        · cases he
        · exact ⟨_, _, _, he, fun K' => by first | rfl | simp_all⟩
        · exact ⟨_, _, _, he, fun K' => by first | rfl | simp_all⟩

theorem ko_x {K KP : KV ρ} {F : KV ρ → KV ρ → Option ρ} {G : KV ρ → KV ρ → KO ρ} (h1 : ∀ K KP v h lg, G K KP (.ret v) h lg = K v h lg) (h2 : ∀ K KP v h lg, G K KP (.pan v) h lg = KP v h lg)
    (h : ∃ out h' lg, G K KP out h' lg = some r ∧ ∀ K' KP', F K' KP' = G K' KP' out h' lg) : KX F K KP r := by
  obtain ⟨out, h', lg, h, k⟩ := h
  cases out with
  | ret v => exact .inl ⟨v, h', lg, by rw [← h1 K KP]; exact h, fun K' KP' => by rw [k, h1]⟩
  | pan v => exact .inr ⟨v, h', lg, by rw [← h2 K KP]; exact h, fun K' KP' => by rw [k, h2]⟩

/-- What comes after a call, by its two ways. -/
def koOf (K KP : KV ρ) : KO ρ := fun out h' lg => match out with
  | .ret v => K v h' lg
  | .pan v => KP v h' lg

theorem callA_eq (f : PV) (as : List PV) (h : List Blk) (K KP : KV ρ) : callA E orc f as h K KP = (match f with
    | .fn g caps => match E.con g with
      | some c => callCon c (as ++ caps) h (koOf K KP)
      | none => orc.call g (as ++ caps) h (koOf K KP)
    | .yl l => orc.round l as h (koOf K KP)
    | _ => none) := rfl

theorem callA_x (hX : OrcX orc) {f : PV} {as : List PV} {h : List Blk} {K KP : KV ρ} (he : callA E orc f as h K KP = some r) : KX (callA E orc f as h) K KP r := by
  rw [callA_eq] at he
  refine ko_x (G := koOf) (fun _ _ _ _ _ => rfl) (fun _ _ _ _ _ => rfl) ?_
  simp only [callA_eq]
  split at he
  · split at he
    · obtain ⟨a, b, c, h1, h2⟩ := callCon_x he
      exact ⟨a, b, c, h1, fun K' KP' => by simp_all⟩
    · obtain ⟨a, b, c, h1, h2⟩ := hX.call _ _ _ _ _ he
      exact ⟨a, b, c, h1, fun K' KP' => by simp_all⟩
  · obtain ⟨a, b, c, h1, h2⟩ := hX.round _ _ _ _ _ he
    exact ⟨a, b, c, h1, fun K' KP' => by simp_all⟩
  · cases he

theorem appendA_x {h : List Blk} {ty tx : Nat} {s x : PV} {K : KV ρ} (he : appendA E h ty tx s x K = some r) : ∃ v h' lg, K v h' lg = some r ∧ ∀ K' : KV ρ, appendA E h ty tx s x K' = K' v h' lg := by
  unfold appendA at he ⊢
  split at he
  · cases he
  · split at he
    · split at he
      · cases he
      · obtain ⟨hs, he⟩ := bif_some he
        simp only [hs, cond_true]
        split at he
        · split at he
          · cases he
          · split at he
            · cases he
            · split at he
              · rename_i hc; exact ⟨_, _, _, he, fun K' => by simp_all⟩
              · rename_i hc
                split at he
                · rename_i hd; exact ⟨_, _, _, he, fun K' => by rw [if_neg hc, if_pos hd]⟩
                · cases he
        · split at he
          · split at he
            · rename_i hc
              split at he
              · cases he
              · split at he
                · rename_i hd; exact ⟨_, _, _, he, fun K' => by rw [if_pos hc, if_pos hd]⟩
                · cases he
            · cases he
          · cases he
        · cases he
    · cases he

theorem builtinA_x {b : Builtin} {ats : List Nat} {as : List PV} {h : List Blk} {K KP : KV ρ} (he : builtinA E b ats as h K KP = some r) : KX (builtinA E b ats as h) K KP r := by
  unfold builtinA at he
  split at he
  · split at he
    · split at he
      · exact .inl ⟨_, _, _, he, fun K' KP' => by unfold builtinA; first | rfl | simp_all⟩
      · cases he
    · cases he
  · obtain ⟨v, h', lg, h1, h2⟩ := appendA_x he
    exact .inl ⟨v, h', lg, h1, fun K' KP' => by unfold builtinA; exact h2 K'⟩
  · split at he
    · exact .inl ⟨_, _, _, he, fun K' KP' => by unfold builtinA; first | rfl | simp_all⟩
    · cases he
  · split at he
    · exact .inl ⟨_, _, _, he, fun K' KP' => by unfold builtinA; first | rfl | simp_all⟩
    · cases he
  · exact .inr ⟨_, _, _, he, fun K' KP' => by unfold builtinA; first | rfl | simp_all⟩
  · cases he

theorem buildSliceA_x {h : List Blk} {ty n : Nat} {ps : List (Nat × PV)} {K : PV → List Blk → Option ρ} (he : buildSliceA E h ty n ps K = some r) :
    ∃ v h', K v h' = some r ∧ ∀ K' : PV → List Blk → Option ρ, buildSliceA E h ty n ps K' = K' v h' := by
  unfold buildSliceA at he ⊢
  split at he
  · cases he
  · split at he
    · split at he
      · cases he
      · split at he
        · cases he
        · split at he
          · rename_i hc
            split at he
            · cases he
            · exact ⟨_, _, he, fun K' => by rw [if_pos hc]⟩
          · cases he
    · cases he

theorem makeA_x {h : List Blk} {ty : Nat} {l c : Int} {K : PV → List Blk → Option ρ} (he : makeA E h ty l c K = some r) : ∃ v h', K v h' = some r ∧ ∀ K' : PV → List Blk → Option ρ, makeA E h ty l c K' = K' v h' := by
  unfold makeA at he ⊢
  split at he
  · cases he
  · split at he
    · split at he
      · cases he
      · split at he
        · cases he
        · split at he
          · rename_i hc
            exact ⟨_, _, he, fun K' => by rw [if_pos hc]⟩
          · cases he
    · cases he

theorem evOp_x (hX : OrcX orc) {o : Oper} {ts : List PV} {h : List Blk} {K KP : KV ρ} (he : evOp E orc ts h o K KP = some r) : KX (evOp E orc ts h o) K KP r := by
  unfold KX
  unfold evOp at he ⊢
  simp only at he ⊢
  cases hop : o.op <;> simp only [hop] at he ⊢ <;> first | (cases he; done) | skip
  case move x => exact .inl ⟨_, _, _, he, fun _ _ => rfl⟩
  case assign x => exact .inl ⟨_, _, _, he, fun _ _ => rfl⟩
  case pick a b c => obtain ⟨v, h1, h2⟩ := pickA_q he; exact .inl ⟨_, _, _, h1, fun _ _ => h2 _⟩
  case alloc t =>
    split at he
    · split at he
      · rename_i hw; exact .inl ⟨_, _, _, he, fun _ _ => by rw [if_pos hw]⟩
      · cases he
    · cases he
  case box t x =>
    split at he
    · split at he
      · obtain ⟨hk, he⟩ := bif_some he; exact .inl ⟨_, _, _, he, fun _ _ => by rw [hk]; rfl⟩
      · cases he
    · cases he
  case build t ps =>
    split at he
    · split at he
      · exact .inl ⟨_, _, _, he, fun _ _ => by first | rfl | simp_all⟩
      · cases he
    · cases he
  case buildSlice t n ps => obtain ⟨v, h', h1, h2⟩ := buildSliceA_x he; exact .inl ⟨_, _, _, h1, fun _ _ => h2 _⟩
  case load t x =>
    split at he
    · obtain ⟨v, h1, h2⟩ := loadA_q he; exact .inl ⟨_, _, _, h1, fun _ _ => by first | exact h2 _ | simp_all⟩
    · cases he
  case store t x y =>
    split at he
    · split at he
      · exact .inl ⟨_, _, _, he, fun _ _ => by first | rfl | simp_all⟩
      · cases he
    · cases he
  case nilCheck x =>
    split at he
    · exact .inl ⟨_, _, _, he, fun _ _ => by first | rfl | simp_all⟩
    · exact .inl ⟨_, _, _, he, fun _ _ => by first | rfl | simp_all⟩
    · exact .inl ⟨_, _, _, he, fun _ _ => by first | rfl | simp_all⟩
    · cases he
  case binOp => obtain ⟨v, h1, h2⟩ := binOpA_q he; exact .inl ⟨_, _, _, h1, fun _ _ => h2 _⟩
  case unOp => obtain ⟨v, h1, h2⟩ := unOpA_q he; exact .inl ⟨_, _, _, h1, fun _ _ => h2 _⟩
  case convert => obtain ⟨v, h1, h2⟩ := convA_q he; exact .inl ⟨_, _, _, h1, fun _ _ => h2 _⟩
  case typeAssert => obtain ⟨v, h1, h2⟩ := assertA_q he; exact .inl ⟨_, _, _, h1, fun _ _ => h2 _⟩
  case makeInterface t x =>
    split at he
    · split at he
      · cases he
      · exact .inl ⟨_, _, _, he, fun _ _ => by first | rfl | simp_all⟩
    · cases he
  case makeFunc f a b =>
    cases f <;> simp only at he ⊢ <;> first | (cases he; done) | skip
    split at he
    · rename_i hh; exact .inl ⟨_, _, _, he, fun _ _ => by rw [if_pos hh]⟩
    · cases he
  case makeSlice t x y =>
    split at he
    · obtain ⟨v, h', h1, h2⟩ := makeA_x he; exact .inl ⟨_, _, _, h1, fun _ _ => by first | exact h2 _ | simp_all⟩
    · cases he
  case slice t x lo hi mx =>
    cases mx with
    | some m => simp at he
    | none =>
      simp only at he ⊢
      split at he
      · split at he
        · rename_i hlo hhi
          obtain ⟨v, h1, h2⟩ := sliceA_q he
          exact .inl ⟨_, _, _, h1, fun _ _ => by first | exact h2 _ | (simp only [hlo, hhi]; exact h2 _) | simp_all⟩
        · cases he
      · cases he
  case fieldAddr t x f =>
    split at he
    · split at he
      · exact .inl ⟨_, _, _, he, fun _ _ => by first | rfl | simp_all⟩
      · cases he
    · cases he
  case field t x f =>
    split at he
    · split at he
      · exact .inl ⟨_, _, _, he, fun _ _ => by first | rfl | simp_all⟩
      · cases he
    · cases he
  case indexAddr t x i =>
    split at he
    · obtain ⟨v, h1, h2⟩ := indexAddrA_q he; exact .inl ⟨_, _, _, h1, fun _ _ => by first | exact h2 _ | simp_all⟩
    · cases he
  case index t x i =>
    split at he
    · obtain ⟨v, h1, h2⟩ := indexA_q he; exact .inl ⟨_, _, _, h1, fun _ _ => by first | exact h2 _ | simp_all⟩
    · cases he
  case extract t i =>
    split at he
    · split at he
      · exact .inl ⟨_, _, _, he, fun _ _ => by first | rfl | simp_all⟩
      · cases he
    · cases he
  case panic x =>
    split at he
    · exact .inr ⟨_, _, _, he, fun _ _ => by first | rfl | simp_all⟩
    · cases he
  case range t x =>
    split at he
    · exact .inl ⟨_, _, _, he, fun _ _ => by first | rfl | simp_all⟩
    · cases he
  case next x b =>
    cases b with
    | false => cases he
    | true =>
      simp only [nextA] at he ⊢
      split at he
      · split at he
        · split at he
          · rename_i b hx q s p hb hp; exact .inl ⟨_, _, _, he, fun _ _ => by rw [if_pos hp]⟩
          · rename_i b hx q s p hb hp; exact .inl ⟨_, _, _, he, fun _ _ => by rw [if_neg hp]⟩
        · cases he
      · cases he
  case call c =>
    cases hc : c.callee with
    | value f => simp only [hc] at he ⊢; exact callA_x hX he
    | builtin b => simp only [hc] at he ⊢; exact builtinA_x he
    | invoke a b => simp [hc] at he

/-- An operation and what comes after, weakened. -/
theorem evOp_mono (hX : OrcX orc) {o : Oper} {ts : List PV} {h : List Blk} {K K' : KV ρ} (he : evOp E orc ts h o K nKV = some r) (hk : ∀ v h' lg, K v h' lg = some r → K' v h' lg = some r) : evOp E orc ts h o K' nKV = some r := by
  rcases evOp_x hX he with ⟨v, h', lg, h1, h2⟩ | ⟨_, _, _, h1, _⟩
  · rw [h2]; exact hk _ _ _ h1
  · cases h1

theorem evOps_x (hX : OrcX orc) {all : List Oper} : ∀ (l : List Oper) {ts : List PV} {h : List Blk} {lg : List Nat} {K : List PV → List Blk → List Nat → Option ρ} {KP : KV ρ}, evOps E orc all l ts h lg K KP = some r →
    (∃ ts' h', K ts' h' lg = some r ∧ ∀ K' KP', evOps E orc all l ts h lg K' KP' = K' ts' h' lg) ∨ ∃ v h', KP v h' lg = some r ∧ ∀ K' KP', evOps E orc all l ts h lg K' KP' = KP' v h' lg
  | [], ts, h, lg, K, KP, he => .inl ⟨_, _, he, fun _ _ => rfl⟩
  | o :: l, ts, h, lg, K, KP, he => by
    have run : ∀ ts', (∀ K' KP', evOps E orc all (o :: l) ts h lg K' KP' = evOp E orc ts' h o (fun v h' _ => evOps E orc all l (putT ts' o.dst v) h' lg K' KP') (fun v h' _ => KP' v h' lg)) →
        (∃ ts' h', K ts' h' lg = some r ∧ ∀ K' KP', evOps E orc all (o :: l) ts h lg K' KP' = K' ts' h' lg) ∨ ∃ v h', KP v h' lg = some r ∧ ∀ K' KP', evOps E orc all (o :: l) ts h lg K' KP' = KP' v h' lg := by
      intro ts' heq
      rw [heq] at he
      rcases evOp_x hX he with ⟨v, h', lg', h1, h2⟩ | ⟨v, h', lg', h1, h2⟩
      · rcases evOps_x hX l h1 with ⟨ts'', h'', h3, h4⟩ | ⟨v', h'', h3, h4⟩
        · exact .inl ⟨ts'', h'', h3, fun K' KP' => by rw [heq, h2]; exact h4 K' KP'⟩
        · exact .inr ⟨v', h'', h3, fun K' KP' => by rw [heq, h2]; exact h4 K' KP'⟩
      · exact .inr ⟨v, h', h1, fun K' KP' => by rw [heq, h2]⟩
    have skip : ∀ ts', (∀ K' KP', evOps E orc all (o :: l) ts h lg K' KP' = evOps E orc all l ts' h lg K' KP') →
        (∃ ts' h', K ts' h' lg = some r ∧ ∀ K' KP', evOps E orc all (o :: l) ts h lg K' KP' = K' ts' h' lg) ∨ ∃ v h', KP v h' lg = some r ∧ ∀ K' KP', evOps E orc all (o :: l) ts h lg K' KP' = KP' v h' lg := by
      intro ts' heq
      rw [heq] at he
      rcases evOps_x hX l he with ⟨ts'', h'', h3, h4⟩ | ⟨v', h'', h3, h4⟩
      · exact .inl ⟨ts'', h'', h3, fun K' KP' => by rw [heq]; exact h4 K' KP'⟩
      · exact .inr ⟨v', h'', h3, fun K' KP' => by rw [heq]; exact h4 K' KP'⟩
    cases hg : o.guard with
    | none => exact run ts fun K' KP' => by simp only [evOps, evG, hg]
    | some p =>
      obtain ⟨j, want⟩ := p
      cases ht : (all[j]?).bind (·.dst) with
      | none => simp [evOps, evG, hg, ht] at he
      | some t =>
        cases hp : ts.getD t .un with
        | d τ x =>
          cases τ with
          | bool =>
            cases x <;> cases want
            · exact run (ts.set t (.d .bool false)) fun K' KP' => by simp only [evOps, evG, hg, ht, hp, cond_true, cond_false]
            · exact skip (putT (ts.set t (.d .bool false)) o.dst (.tu [])) fun K' KP' => by simp only [evOps, evG, hg, ht, hp, cond_true, cond_false]
            · exact skip (putT (ts.set t (.d .bool true)) o.dst (.tu [])) fun K' KP' => by simp only [evOps, evG, hg, ht, hp, cond_true, cond_false]
            · exact run (ts.set t (.d .bool true)) fun K' KP' => by simp only [evOps, evG, hg, ht, hp, cond_true, cond_false]
          | _ => simp only [evOps, evG, hg, ht, hp] at he; cases he
        | tu us =>
          cases us with
          | nil => exact skip (putT ts o.dst (.tu [])) fun K' KP' => by simp only [evOps, evG, hg, ht, hp]
          | cons u us => simp only [evOps, evG, hg, ht, hp] at he; cases he
        | _ => simp only [evOps, evG, hg, ht, hp] at he; cases he

end
end Go.Fy

