/-
  Contracts of functions on names and paths, and of those of the library that they call; conditions: lengths below a bound, and the second argument, where a contract says so.
-/
import Derived.Test.YtholnbknimfbhaaDoorYc
import Derived.Lib.Bytealg
import Derived.Laws.RangeString
import Derived.Test.YtholnbknimfbhaaDoorProg
import Derived.KernelRfl
set_option linter.unusedVariables false
set_option linter.unusedSimpArgs false
namespace Go.Fy

theorem wrap_i64 {n : Int} (h1 : -9223372036854775808 ≤ n) (h2 : n < 9223372036854775808) : IntKind.wrap .i64 n = n := by
  unfold IntKind.wrap
  simp only [IntKind.bits, IntKind.signed]
  by_cases h : 0 ≤ n
  · have e : n % 2 ^ 64 = n := Int.emod_eq_of_lt h (by omega)
    simp only [e]
    rw [if_neg]
    simp
    omega
  · have e : n % 2 ^ 64 = n + 2 ^ 64 := by
      have : (n + 2 ^ 64) % 2 ^ 64 = n % 2 ^ 64 := by simp
      rw [← this]
      exact Int.emod_eq_of_lt (by omega) (by omega)
    simp only [e]
    rw [if_pos]
    · omega
    · simp
      omega

/-- A text cut at each byte c. -/
def spl (c : UInt8) : List UInt8 → List (List UInt8)
  | [] => [[]]
  | b :: l => if b = c then [] :: spl c l else (b :: (spl c l).headD []) :: (spl c l).tail

theorem spl_ne (c : UInt8) : ∀ l, spl c l ≠ []
  | [] => by simp [spl]
  | b :: l => by rw [spl]; split <;> simp
theorem spl_len (c : UInt8) : ∀ l : List UInt8, (spl c l).length = l.count c + 1
  | [] => by simp [spl]
  | b :: l => by
    rw [spl]
    split
    · rename_i h; subst h; simp [spl_len b l]
    · rename_i h
      rw [List.count_cons_of_ne (by simpa using h)]
      have := spl_len c l
      cases hs : spl c l with
      | nil => exact absurd hs (spl_ne c l)
      | cons x r => rw [hs] at this; simpa using this

theorem index_cases (c : UInt8) : ∀ l : List UInt8, (Lib.indexByte l c = -1 ∧ l.count c = 0 ∧ spl c l = [l]) ∨
    ∃ m : Nat, Lib.indexByte l c = (m : Int) ∧ m < l.length ∧ l.count c = (l.drop (m + 1)).count c + 1 ∧ spl c l = l.take m :: spl c (l.drop (m + 1)) ∧ c ∉ l.take m ∧ l[m]? = some c
  | [] => .inl ⟨rfl, rfl, rfl⟩
  | b :: l => by
    by_cases h : b = c
    · subst h
      exact .inr ⟨0, by simp [Lib.indexByte], by simp, by simp, by simp [spl], by simp, by simp⟩
    · rcases index_cases c l with ⟨h1, h2, h3⟩ | ⟨m, h1, h2, h3, h4, h5, h6⟩
      · refine .inl ⟨by simp [Lib.indexByte, h, h1], by rw [List.count_cons_of_ne (by simpa using h), h2], by simp [spl, h, h3]⟩
      · refine .inr ⟨m + 1, ?_, by simp; omega, ?_, ?_, ?_, by simpa using h6⟩
        · have : ¬ ((m : Int) = -1) := by omega
          simp [Lib.indexByte, h, h1, this]
        · rw [List.count_cons_of_ne (by simpa using h), h3]; rfl
        · rw [spl, if_neg h, h4]; rfl
        · simp only [List.take_succ_cons, List.mem_cons, not_or]
          exact ⟨fun e => h e.symm, h5⟩

theorem cutL_all (s : List UInt8) (l : Nat) : cutL s l s.length = s.drop l := by simp [cutL]
theorem cutL_zero {α : Type} (s : List α) (u : Nat) : cutL s 0 u = s.take u := by simp [cutL]

end Go.Fy

set_option linter.unusedVariables false
set_option linter.unusedSimpArgs false
namespace Go.Fy

theorem enc_cases {r : Int} (h : 128 ≤ r) : (∃ a b : UInt8, (Utf8.encode r).data.toList = [a, b] ∧ 128 ≤ b.toNat) ∨ (3 ≤ (Utf8.encode r).data.toList.length ∧ (Utf8.encode r).data.toList.length ≤ 4) := by
  unfold Utf8.encode
  have hc : 128 ≤ (if Utf8.valid r = true then r.toNat else Utf8.runeError) := by
    split
    · omega
    · decide
  generalize (if Utf8.valid r = true then r.toNat else Utf8.runeError) = c at hc
  simp only
  rw [if_neg (by omega)]
  split
  · left
    refine ⟨_, _, rfl, ?_⟩
    rw [UInt8.toNat_ofNat']
    have : 0x80 + c % 64 < 2 ^ 8 := by omega
    rw [Nat.mod_eq_of_lt this]
    omega
  · right
    split <;> simp

theorem decL_ascii {s : List UInt8} {p : Nat} {b : UInt8} (h : s[p]? = some b) (hb : b.toNat < 128) : decL s p = (b.toNat, 1) := by
  have hp : p < s.length := (List.getElem?_eq_some_iff.1 h).1
  have hs : p < (⟨s.toArray⟩ : ByteArray).size := by show p < s.toArray.size; simpa using hp
  have e : (⟨s.toArray⟩ : ByteArray)[p]'hs = b := by
    show s.toArray[p]'_ = b
    have := (List.getElem?_eq_some_iff.1 h).2
    simpa using this
  unfold decL
  rw [decode_ascii _ p hs (by rw [e]; exact hb), e]

theorem get_toNat {s : List UInt8} {p : Nat} {b : UInt8} (h : s[p]? = some b) : ((⟨s.toArray⟩ : ByteArray).get! p).toNat = b.toNat := by
  have hp : p < s.length := (List.getElem?_eq_some_iff.1 h).1
  have : (⟨s.toArray⟩ : ByteArray).get! p = b := by
    show s.toArray[p]! = b
    have := (List.getElem?_eq_some_iff.1 h).2
    simp [getElem!_pos, hp, this]
  rw [this]

/-- A rune that does not begin with a byte of ASCII is none of ASCII. -/
theorem decL_wide {s : List UInt8} {p : Nat} {b : UInt8} (h : s[p]? = some b) (hb : 128 ≤ b.toNat) : 128 ≤ (decL s p).1 ∧ (decL s p).1 ≤ 1114111 ∧ 1 ≤ (decL s p).2 ∧
    ∀ j, p < j → j < p + (decL s p).2 → ∃ x : UInt8, s[j]? = some x ∧ 128 ≤ x.toNat := by
  have h0 := get_toNat h
  have hlen : (⟨s.toArray⟩ : ByteArray).size = s.length := by show s.toArray.size = _; simp
  have cont : ∀ k, (decide (p + k < (⟨s.toArray⟩ : ByteArray).size) && (((⟨s.toArray⟩ : ByteArray).get! (p + k)).toNat / 64 == 2)) = true → ∃ x : UInt8, s[p + k]? = some x ∧ 128 ≤ x.toNat := by
    intro k hk
    simp only [Bool.and_eq_true, decide_eq_true_eq, beq_iff_eq, hlen] at hk
    refine ⟨s[p + k]'hk.1, List.getElem?_eq_getElem hk.1, ?_⟩
    have := get_toNat (List.getElem?_eq_getElem hk.1)
    omega
  have none_ : ∀ j, p < j → j < p + 1 → ∃ x : UInt8, s[j]? = some x ∧ 128 ≤ x.toNat := fun j h1 h2 => by omega
  unfold decL Utf8.decode
  simp only [Nat.add_zero, h0]
  rw [if_neg (by omega)]
  split
  · rename_i hc
    simp only [Bool.and_eq_true] at hc
    split
    · rename_i hv
      refine ⟨hv, ?_, by omega, fun j h1 h2 => ?_⟩
      · show b.toNat % 32 * 64 + _ % 64 ≤ 1114111
        omega
      · have : j = p + 1 := by omega
        subst this
        exact cont 1 (by simpa using hc.2)
    · exact ⟨by decide, by decide, by decide, none_⟩
  · split
    · rename_i hc
      simp only [Bool.and_eq_true] at hc
      split
      · rename_i hv
        simp only [Bool.and_eq_true, decide_eq_true_eq] at hv
        refine ⟨?_, ?_, by omega, fun j h1 h2 => ?_⟩
        · have := hv.1
          simp only [ge_iff_le] at this
          omega
        · show b.toNat % 16 * 4096 + _ % 64 * 64 + _ % 64 ≤ 1114111
          omega
        · have : j = p + 1 ∨ j = p + 2 := by omega
          rcases this with rfl | rfl
          · exact cont 1 (by simpa using hc.1.2)
          · exact cont 2 (by simpa using hc.2)
      · exact ⟨by decide, by decide, by decide, none_⟩
    · split
      · rename_i hc
        simp only [Bool.and_eq_true] at hc
        split
        · rename_i hv
          simp only [Bool.and_eq_true, decide_eq_true_eq] at hv
          refine ⟨?_, ?_, by omega, fun j h1 h2 => ?_⟩
          · have := hv.1
            simp only [ge_iff_le] at this
            omega
          · have := hv.2
            simp only [Utf8.valid, Bool.or_eq_true, Bool.and_eq_true, decide_eq_true_eq] at this
            omega
          · have : j = p + 1 ∨ j = p + 2 ∨ j = p + 3 := by omega
            rcases this with rfl | rfl | rfl
            · exact cont 1 (by simpa using hc.1.1.2)
            · exact cont 2 (by simpa using hc.1.2)
            · exact cont 3 (by simpa using hc.2)
        · exact ⟨by decide, by decide, by decide, none_⟩
      · exact ⟨by decide, by decide, by decide, none_⟩
end Go.Fy

set_option linter.unusedVariables false
open Go.Proofs
namespace Go.Proofs.YtholnbknimfbhaaDoor
open Go Go.Fy

abbrev Y13 : Ty := (.cons .str (.cons (.int .u64) .nil))
abbrev D13 : Type := (List UInt8) × Int × Unit
abbrev Y112 : Ty := (.cons (.int .u8) (.cons (.int .u8) .nil))
abbrev D112 : Type := Int × Int × Unit
abbrev Y35 : Ty := (.cons .str (.cons .bool (.cons .str (.cons (.int .i64) .nil))))
abbrev D35 : Type := (List UInt8) × Bool × (List UInt8) × Int × Unit
abbrev Y7 : Ty := (.cons (.int .i64) (.cons (.int .i64) (.cons .bool (.cons (.int .u8) .nil))))
abbrev D7 : Type := Int × Int × Bool × Int × Unit
abbrev Y29 : Ty := (.cons (.sl Y35) (.cons (.int .i64) .nil))
abbrev D29 : Type := (List D35) × Int × Unit
noncomputable def ti1 : TI := { kind := .fn, agg := false, size := 1, bytes := 8, shs := [none], zero := [ZU.nf].map ZU.pv, ty := none, cmp := false }
noncomputable def ti2 : TI := { kind := (.int .i64), agg := false, size := 1, bytes := 8, shs := [none], zero := [ZU.d (.int .i64)].map ZU.pv, ty := some (.int .i64), cmp := false }
noncomputable def ti3 : TI := { kind := (.int .i64), agg := false, size := 1, bytes := 8, shs := [none], zero := [ZU.d (.int .i64)].map ZU.pv, ty := some (.int .i64), cmp := false }
noncomputable def ti4 : TI := { kind := .bool, agg := false, size := 1, bytes := 1, shs := [none], zero := [ZU.d .bool].map ZU.pv, ty := some .bool, cmp := false }
noncomputable def ti5 : TI := { kind := (.int .u8), agg := false, size := 1, bytes := 1, shs := [none], zero := [ZU.d (.int .u8)].map ZU.pv, ty := some (.int .u8), cmp := false }
noncomputable def ti6 : TI := { kind := (.int .u8), agg := false, size := 1, bytes := 1, shs := [none], zero := [ZU.d (.int .u8)].map ZU.pv, ty := some (.int .u8), cmp := false }
noncomputable def ti7 : TI := { kind := (.st [(0, 0, 2), (1, 1, 3), (2, 2, 4), (3, 3, 6)]), agg := true, size := 4, bytes := 24, shs := [none, none, none, none], zero := [ZU.d (.int .i64), ZU.d (.int .i64), ZU.d .bool, ZU.d (.int .u8)].map ZU.pv, ty := some Y7, cmp := false }
noncomputable def ti8 : TI := { kind := (.st [(0, 0, 2), (1, 1, 3), (2, 2, 4), (3, 3, 6)]), agg := true, size := 4, bytes := 24, shs := [none, none, none, none], zero := [ZU.d (.int .i64), ZU.d (.int .i64), ZU.d .bool, ZU.d (.int .u8)].map ZU.pv, ty := some Y7, cmp := false }
noncomputable def ti9 : TI := { kind := .str, agg := false, size := 1, bytes := 16, shs := [none], zero := [ZU.d .str].map ZU.pv, ty := some .str, cmp := false }
noncomputable def ti10 : TI := { kind := .str, agg := false, size := 1, bytes := 16, shs := [none], zero := [ZU.d .str].map ZU.pv, ty := some .str, cmp := false }
noncomputable def ti11 : TI := { kind := .str, agg := false, size := 1, bytes := 16, shs := [none], zero := [ZU.d .str].map ZU.pv, ty := some .str, cmp := false }
noncomputable def ti12 : TI := { kind := (.int .u64), agg := false, size := 1, bytes := 8, shs := [none], zero := [ZU.d (.int .u64)].map ZU.pv, ty := some (.int .u64), cmp := false }
noncomputable def ti13 : TI := { kind := (.st [(0, 0, 9), (1, 1, 12)]), agg := true, size := 2, bytes := 24, shs := [none, none], zero := [ZU.d .str, ZU.d (.int .u64)].map ZU.pv, ty := some Y13, cmp := false }
noncomputable def ti14 : TI := { kind := (.st [(0, 0, 9), (1, 1, 12)]), agg := true, size := 2, bytes := 24, shs := [none, none], zero := [ZU.d .str, ZU.d (.int .u64)].map ZU.pv, ty := some Y13, cmp := false }
noncomputable def ti15 : TI := { kind := (.ptr 119), agg := false, size := 1, bytes := 8, shs := [none], zero := [ZU.np].map ZU.pv, ty := none, cmp := false }
noncomputable def ti16 : TI := { kind := (.ptr 122), agg := false, size := 1, bytes := 8, shs := [none], zero := [ZU.np].map ZU.pv, ty := none, cmp := false }
noncomputable def ti17 : TI := { kind := (.ptr 130), agg := false, size := 1, bytes := 8, shs := [none], zero := [ZU.np].map ZU.pv, ty := none, cmp := false }
noncomputable def ti18 : TI := { kind := (.st [(0, 0, 17)]), agg := true, size := 1, bytes := 8, shs := [none], zero := [ZU.np].map ZU.pv, ty := none, cmp := false }
noncomputable def ti19 : TI := { kind := (.st [(0, 0, 17)]), agg := true, size := 1, bytes := 8, shs := [none], zero := [ZU.np].map ZU.pv, ty := none, cmp := false }
noncomputable def ti20 : TI := { kind := .ifc, agg := false, size := 1, bytes := 16, shs := [none], zero := [ZU.ni].map ZU.pv, ty := none, cmp := false }
noncomputable def ti21 : TI := { kind := (.int .i32), agg := false, size := 1, bytes := 4, shs := [none], zero := [ZU.d (.int .i32)].map ZU.pv, ty := some (.int .i32), cmp := false }
noncomputable def ti22 : TI := { kind := .fn, agg := false, size := 1, bytes := 8, shs := [none], zero := [ZU.nf].map ZU.pv, ty := none, cmp := false }
noncomputable def ti23 : TI := { kind := (.int .i64), agg := false, size := 1, bytes := 8, shs := [none], zero := [ZU.d (.int .i64)].map ZU.pv, ty := some (.int .i64), cmp := false }
noncomputable def ti25 : TI := { kind := .fn, agg := false, size := 1, bytes := 8, shs := [none], zero := [ZU.nf].map ZU.pv, ty := none, cmp := false }
noncomputable def ti26 : TI := { kind := .fn, agg := false, size := 1, bytes := 8, shs := [none], zero := [ZU.nf].map ZU.pv, ty := none, cmp := false }
noncomputable def ti27 : TI := { kind := .fn, agg := false, size := 1, bytes := 8, shs := [none], zero := [ZU.nf].map ZU.pv, ty := none, cmp := false }
noncomputable def ti28 : TI := { kind := (.sl 36), agg := false, size := 1, bytes := 24, shs := [none], zero := [ZU.nsl].map ZU.pv, ty := some (.sl Y35), cmp := false }
noncomputable def ti29 : TI := { kind := (.st [(0, 0, 28), (1, 1, 3)]), agg := true, size := 2, bytes := 32, shs := [none, none], zero := [ZU.nsl, ZU.d (.int .i64)].map ZU.pv, ty := some Y29, cmp := false }
noncomputable def ti30 : TI := { kind := (.st [(0, 0, 28), (1, 1, 3)]), agg := true, size := 2, bytes := 32, shs := [none, none], zero := [ZU.nsl, ZU.d (.int .i64)].map ZU.pv, ty := some Y29, cmp := false }
noncomputable def ti31 : TI := { kind := .fn, agg := false, size := 1, bytes := 8, shs := [none], zero := [ZU.nf].map ZU.pv, ty := none, cmp := false }
noncomputable def ti32 : TI := { kind := (.sl 9), agg := false, size := 1, bytes := 24, shs := [none], zero := [ZU.nsl].map ZU.pv, ty := some (.sl .str), cmp := false }
noncomputable def ti34 : TI := { kind := .fn, agg := false, size := 1, bytes := 8, shs := [none], zero := [ZU.nf].map ZU.pv, ty := none, cmp := false }
noncomputable def ti35 : TI := { kind := (.st [(0, 0, 9), (1, 1, 4), (2, 2, 9), (3, 3, 3)]), agg := true, size := 4, bytes := 48, shs := [none, none, none, none], zero := [ZU.d .str, ZU.d .bool, ZU.d .str, ZU.d (.int .i64)].map ZU.pv, ty := some Y35, cmp := false }
noncomputable def ti36 : TI := { kind := (.st [(0, 0, 9), (1, 1, 4), (2, 2, 9), (3, 3, 3)]), agg := true, size := 4, bytes := 48, shs := [none, none, none, none], zero := [ZU.d .str, ZU.d .bool, ZU.d .str, ZU.d (.int .i64)].map ZU.pv, ty := some Y35, cmp := false }
noncomputable def ti38 : TI := { kind := .fn, agg := false, size := 1, bytes := 8, shs := [none], zero := [ZU.nf].map ZU.pv, ty := none, cmp := false }
noncomputable def ti39 : TI := { kind := .fn, agg := false, size := 1, bytes := 8, shs := [none], zero := [ZU.nf].map ZU.pv, ty := none, cmp := false }
noncomputable def ti41 : TI := { kind := .fn, agg := false, size := 1, bytes := 8, shs := [none], zero := [ZU.nf].map ZU.pv, ty := none, cmp := false }
noncomputable def ti42 : TI := { kind := .fn, agg := false, size := 1, bytes := 8, shs := [none], zero := [ZU.nf].map ZU.pv, ty := none, cmp := false }
noncomputable def ti43 : TI := { kind := .fn, agg := false, size := 1, bytes := 8, shs := [none], zero := [ZU.nf].map ZU.pv, ty := none, cmp := false }
noncomputable def ti44 : TI := { kind := .fn, agg := false, size := 1, bytes := 8, shs := [none], zero := [ZU.nf].map ZU.pv, ty := none, cmp := false }
noncomputable def ti45 : TI := { kind := .fn, agg := false, size := 1, bytes := 8, shs := [none], zero := [ZU.nf].map ZU.pv, ty := none, cmp := false }
noncomputable def ti46 : TI := { kind := .fn, agg := false, size := 1, bytes := 8, shs := [none], zero := [ZU.nf].map ZU.pv, ty := none, cmp := false }
noncomputable def ti47 : TI := { kind := .fn, agg := false, size := 1, bytes := 8, shs := [none], zero := [ZU.nf].map ZU.pv, ty := none, cmp := false }
noncomputable def ti48 : TI := { kind := .fn, agg := false, size := 1, bytes := 8, shs := [none], zero := [ZU.nf].map ZU.pv, ty := none, cmp := false }
noncomputable def ti49 : TI := { kind := .fn, agg := false, size := 1, bytes := 8, shs := [none], zero := [ZU.nf].map ZU.pv, ty := none, cmp := false }
noncomputable def ti51 : TI := { kind := .fn, agg := false, size := 1, bytes := 8, shs := [none], zero := [ZU.nf].map ZU.pv, ty := none, cmp := false }
noncomputable def ti52 : TI := { kind := (.ptr 54), agg := false, size := 1, bytes := 8, shs := [none], zero := [ZU.np].map ZU.pv, ty := none, cmp := false }
noncomputable def ti53 : TI := { kind := (.st [(0, 0, 30)]), agg := true, size := 2, bytes := 32, shs := [none, none], zero := [ZU.nsl, ZU.d (.int .i64)].map ZU.pv, ty := some (.cons Y29 .nil), cmp := false }
noncomputable def ti54 : TI := { kind := (.st [(0, 0, 30)]), agg := true, size := 2, bytes := 32, shs := [none, none], zero := [ZU.nsl, ZU.d (.int .i64)].map ZU.pv, ty := some (.cons Y29 .nil), cmp := false }
noncomputable def ti55 : TI := { kind := .fn, agg := false, size := 1, bytes := 8, shs := [none], zero := [ZU.nf].map ZU.pv, ty := none, cmp := false }
noncomputable def ti57 : TI := { kind := .fn, agg := false, size := 1, bytes := 8, shs := [none], zero := [ZU.nf].map ZU.pv, ty := none, cmp := false }
noncomputable def ti58 : TI := { kind := .fn, agg := false, size := 1, bytes := 8, shs := [none], zero := [ZU.nf].map ZU.pv, ty := none, cmp := false }
noncomputable def ti59 : TI := { kind := .fn, agg := false, size := 1, bytes := 8, shs := [none], zero := [ZU.nf].map ZU.pv, ty := none, cmp := false }
noncomputable def ti60 : TI := { kind := .fn, agg := false, size := 1, bytes := 8, shs := [none], zero := [ZU.nf].map ZU.pv, ty := none, cmp := false }
noncomputable def ti62 : TI := { kind := .fn, agg := false, size := 1, bytes := 8, shs := [none], zero := [ZU.nf].map ZU.pv, ty := none, cmp := false }
noncomputable def ti63 : TI := { kind := .fn, agg := false, size := 1, bytes := 8, shs := [none], zero := [ZU.nf].map ZU.pv, ty := none, cmp := false }
noncomputable def ti64 : TI := { kind := .fn, agg := false, size := 1, bytes := 8, shs := [none], zero := [ZU.nf].map ZU.pv, ty := none, cmp := false }
noncomputable def ti65 : TI := { kind := .fn, agg := false, size := 1, bytes := 8, shs := [none], zero := [ZU.nf].map ZU.pv, ty := none, cmp := false }
noncomputable def ti66 : TI := { kind := (.ptr 69), agg := false, size := 1, bytes := 8, shs := [none], zero := [ZU.np].map ZU.pv, ty := none, cmp := false }
noncomputable def ti67 : TI := { kind := (.sl 5), agg := false, size := 1, bytes := 24, shs := [none], zero := [ZU.nsl].map ZU.pv, ty := some (.sl (.int .u8)), cmp := false }
noncomputable def ti68 : TI := { kind := (.st [(0, 0, 66), (1, 1, 67)]), agg := true, size := 2, bytes := 32, shs := [none, none], zero := [ZU.np, ZU.nsl].map ZU.pv, ty := none, cmp := false }
noncomputable def ti69 : TI := { kind := (.st [(0, 0, 66), (1, 1, 67)]), agg := true, size := 2, bytes := 32, shs := [none, none], zero := [ZU.np, ZU.nsl].map ZU.pv, ty := none, cmp := false }
noncomputable def ti70 : TI := { kind := .fn, agg := false, size := 1, bytes := 8, shs := [none], zero := [ZU.nf].map ZU.pv, ty := none, cmp := false }
noncomputable def ti71 : TI := { kind := .ifc, agg := false, size := 1, bytes := 16, shs := [none], zero := [ZU.ni].map ZU.pv, ty := none, cmp := false }
noncomputable def ti72 : TI := { kind := .ifc, agg := false, size := 1, bytes := 16, shs := [none], zero := [ZU.ni].map ZU.pv, ty := none, cmp := false }
noncomputable def ti74 : TI := { kind := .fn, agg := false, size := 1, bytes := 8, shs := [none], zero := [ZU.nf].map ZU.pv, ty := none, cmp := false }
noncomputable def ti75 : TI := { kind := .fn, agg := false, size := 1, bytes := 8, shs := [none], zero := [ZU.nf].map ZU.pv, ty := none, cmp := false }
noncomputable def ti76 : TI := { kind := .fn, agg := false, size := 1, bytes := 8, shs := [none], zero := [ZU.nf].map ZU.pv, ty := none, cmp := false }
noncomputable def ti77 : TI := { kind := .fn, agg := false, size := 1, bytes := 8, shs := [none], zero := [ZU.nf].map ZU.pv, ty := none, cmp := false }
noncomputable def ti78 : TI := { kind := .fn, agg := false, size := 1, bytes := 8, shs := [none], zero := [ZU.nf].map ZU.pv, ty := none, cmp := false }
noncomputable def ti79 : TI := { kind := .fn, agg := false, size := 1, bytes := 8, shs := [none], zero := [ZU.nf].map ZU.pv, ty := none, cmp := false }
noncomputable def ti80 : TI := { kind := .fn, agg := false, size := 1, bytes := 8, shs := [none], zero := [ZU.nf].map ZU.pv, ty := none, cmp := false }
noncomputable def ti81 : TI := { kind := .fn, agg := false, size := 1, bytes := 8, shs := [none], zero := [ZU.nf].map ZU.pv, ty := none, cmp := false }
noncomputable def ti82 : TI := { kind := .fn, agg := false, size := 1, bytes := 8, shs := [none], zero := [ZU.nf].map ZU.pv, ty := none, cmp := false }
noncomputable def ti83 : TI := { kind := .fn, agg := false, size := 1, bytes := 8, shs := [none], zero := [ZU.nf].map ZU.pv, ty := none, cmp := false }
noncomputable def ti84 : TI := { kind := .fn, agg := false, size := 1, bytes := 8, shs := [none], zero := [ZU.nf].map ZU.pv, ty := none, cmp := false }
noncomputable def ti85 : TI := { kind := .fn, agg := false, size := 1, bytes := 8, shs := [none], zero := [ZU.nf].map ZU.pv, ty := none, cmp := false }
noncomputable def ti86 : TI := { kind := .fn, agg := false, size := 1, bytes := 8, shs := [none], zero := [ZU.nf].map ZU.pv, ty := none, cmp := false }
noncomputable def ti87 : TI := { kind := (.ptr 5), agg := false, size := 1, bytes := 8, shs := [none], zero := [ZU.np].map ZU.pv, ty := none, cmp := false }
noncomputable def ti88 : TI := { kind := (.int .u64), agg := false, size := 1, bytes := 8, shs := [none], zero := [ZU.d (.int .u64)].map ZU.pv, ty := some (.int .u64), cmp := false }
noncomputable def ti89 : TI := { kind := .fn, agg := false, size := 1, bytes := 8, shs := [none], zero := [ZU.nf].map ZU.pv, ty := none, cmp := false }
noncomputable def ti90 : TI := { kind := .fn, agg := false, size := 1, bytes := 8, shs := [none], zero := [ZU.nf].map ZU.pv, ty := none, cmp := false }
noncomputable def ti91 : TI := { kind := .fn, agg := false, size := 1, bytes := 8, shs := [none], zero := [ZU.nf].map ZU.pv, ty := none, cmp := false }
noncomputable def ti92 : TI := { kind := .fn, agg := false, size := 1, bytes := 8, shs := [none], zero := [ZU.nf].map ZU.pv, ty := none, cmp := false }
noncomputable def ti93 : TI := { kind := .fn, agg := false, size := 1, bytes := 8, shs := [none], zero := [ZU.nf].map ZU.pv, ty := none, cmp := false }
noncomputable def ti94 : TI := { kind := .fn, agg := false, size := 1, bytes := 8, shs := [none], zero := [ZU.nf].map ZU.pv, ty := none, cmp := false }
noncomputable def ti95 : TI := { kind := (.arr 256 4), agg := true, size := 256, bytes := 256, shs := [some (256, .bool)], zero := [ZU.d (.arr 256 .bool)].map ZU.pv, ty := some (.arr 256 .bool), cmp := false }
noncomputable def ti96 : TI := { kind := (.arr 256 4), agg := true, size := 256, bytes := 256, shs := [some (256, .bool)], zero := [ZU.d (.arr 256 .bool)].map ZU.pv, ty := some (.arr 256 .bool), cmp := false }
noncomputable def ti98 : TI := { kind := .fn, agg := false, size := 1, bytes := 8, shs := [none], zero := [ZU.nf].map ZU.pv, ty := none, cmp := false }
noncomputable def ti99 : TI := { kind := .fn, agg := false, size := 1, bytes := 8, shs := [none], zero := [ZU.nf].map ZU.pv, ty := none, cmp := false }
noncomputable def ti101 : TI := { kind := .fn, agg := false, size := 1, bytes := 8, shs := [none], zero := [ZU.nf].map ZU.pv, ty := none, cmp := false }
noncomputable def ti102 : TI := { kind := .fn, agg := false, size := 1, bytes := 8, shs := [none], zero := [ZU.nf].map ZU.pv, ty := none, cmp := false }
noncomputable def ti103 : TI := { kind := .fn, agg := false, size := 1, bytes := 8, shs := [none], zero := [ZU.nf].map ZU.pv, ty := none, cmp := false }
noncomputable def ti104 : TI := { kind := .fn, agg := false, size := 1, bytes := 8, shs := [none], zero := [ZU.nf].map ZU.pv, ty := none, cmp := false }
noncomputable def ti106 : TI := { kind := .fn, agg := false, size := 1, bytes := 8, shs := [none], zero := [ZU.nf].map ZU.pv, ty := none, cmp := false }
noncomputable def ti107 : TI := { kind := .fn, agg := false, size := 1, bytes := 8, shs := [none], zero := [ZU.nf].map ZU.pv, ty := none, cmp := false }
noncomputable def ti108 : TI := { kind := .fn, agg := false, size := 1, bytes := 8, shs := [none], zero := [ZU.nf].map ZU.pv, ty := none, cmp := false }
noncomputable def ti109 : TI := { kind := (.ptr 96), agg := false, size := 1, bytes := 8, shs := [none], zero := [ZU.np].map ZU.pv, ty := none, cmp := false }
noncomputable def ti110 : TI := { kind := .fn, agg := false, size := 1, bytes := 8, shs := [none], zero := [ZU.nf].map ZU.pv, ty := none, cmp := false }
noncomputable def ti111 : TI := { kind := (.arr 256 5), agg := true, size := 256, bytes := 256, shs := [some (256, (.int .u8))], zero := [ZU.d (.arr 256 (.int .u8))].map ZU.pv, ty := some (.arr 256 (.int .u8)), cmp := false }
noncomputable def ti112 : TI := { kind := (.st [(0, 0, 5), (1, 1, 5)]), agg := true, size := 2, bytes := 2, shs := [none, none], zero := [ZU.d (.int .u8), ZU.d (.int .u8)].map ZU.pv, ty := some Y112, cmp := false }
noncomputable def ti113 : TI := { kind := (.st [(0, 0, 5), (1, 1, 5)]), agg := true, size := 2, bytes := 2, shs := [none, none], zero := [ZU.d (.int .u8), ZU.d (.int .u8)].map ZU.pv, ty := some Y112, cmp := false }
noncomputable def ti114 : TI := { kind := (.arr 16 113), agg := true, size := 32, bytes := 32, shs := [some (16, Y112)], zero := [ZU.d (.arr 16 Y112)].map ZU.pv, ty := some (.arr 16 Y112), cmp := false }
noncomputable def ti115 : TI := { kind := (.int .u32), agg := false, size := 1, bytes := 4, shs := [none], zero := [ZU.d (.int .u32)].map ZU.pv, ty := some (.int .u32), cmp := false }
noncomputable def ti117 : TI := { kind := .fn, agg := false, size := 1, bytes := 8, shs := [none], zero := [ZU.nf].map ZU.pv, ty := none, cmp := false }
noncomputable def ti118 : TI := { kind := (.st [(0, 0, 17), (1, 1, 17), (2, 2, 17), (3, 3, 9)]), agg := true, size := 4, bytes := 40, shs := [none, none, none, none], zero := [ZU.np, ZU.np, ZU.np, ZU.d .str].map ZU.pv, ty := none, cmp := false }
noncomputable def ti119 : TI := { kind := (.st [(0, 0, 17), (1, 1, 17), (2, 2, 17), (3, 3, 9)]), agg := true, size := 4, bytes := 40, shs := [none, none, none, none], zero := [ZU.np, ZU.np, ZU.np, ZU.d .str].map ZU.pv, ty := none, cmp := false }
noncomputable def ti123 : TI := { kind := .fn, agg := false, size := 1, bytes := 8, shs := [none], zero := [ZU.nf].map ZU.pv, ty := none, cmp := false }
noncomputable def ti124 : TI := { kind := (.int .u8), agg := false, size := 1, bytes := 1, shs := [none], zero := [ZU.d (.int .u8)].map ZU.pv, ty := some (.int .u8), cmp := false }
noncomputable def ti125 : TI := { kind := (.int .u8), agg := false, size := 1, bytes := 1, shs := [none], zero := [ZU.d (.int .u8)].map ZU.pv, ty := some (.int .u8), cmp := false }
noncomputable def ti126 : TI := { kind := .fn, agg := false, size := 1, bytes := 8, shs := [none], zero := [ZU.nf].map ZU.pv, ty := none, cmp := false }
noncomputable def ti127 : TI := { kind := (.int .i32), agg := false, size := 1, bytes := 4, shs := [none], zero := [ZU.d (.int .i32)].map ZU.pv, ty := some (.int .i32), cmp := false }
noncomputable def ti128 : TI := { kind := (.int .i32), agg := false, size := 1, bytes := 4, shs := [none], zero := [ZU.d (.int .i32)].map ZU.pv, ty := some (.int .i32), cmp := false }
noncomputable def ti129 : TI := { kind := (.st [(0, 0, 12), (1, 1, 12), (2, 2, 115), (3, 3, 124), (4, 4, 5), (5, 5, 5), (6, 6, 125), (7, 7, 126), (8, 8, 87), (9, 9, 127), (10, 10, 128)]), agg := true, size := 11, bytes := 48, shs := [none, none, none, none, none, none, none, none, none, none, none], zero := [ZU.d (.int .u64), ZU.d (.int .u64), ZU.d (.int .u32), ZU.d (.int .u8), ZU.d (.int .u8), ZU.d (.int .u8), ZU.d (.int .u8), ZU.nf, ZU.np, ZU.d (.int .i32), ZU.d (.int .i32)].map ZU.pv, ty := none, cmp := false }
noncomputable def ti130 : TI := { kind := (.st [(0, 0, 12), (1, 1, 12), (2, 2, 115), (3, 3, 124), (4, 4, 5), (5, 5, 5), (6, 6, 125), (7, 7, 126), (8, 8, 87), (9, 9, 127), (10, 10, 128)]), agg := true, size := 11, bytes := 48, shs := [none, none, none, none, none, none, none, none, none, none, none], zero := [ZU.d (.int .u64), ZU.d (.int .u64), ZU.d (.int .u32), ZU.d (.int .u8), ZU.d (.int .u8), ZU.d (.int .u8), ZU.d (.int .u8), ZU.nf, ZU.np, ZU.d (.int .i32), ZU.d (.int .i32)].map ZU.pv, ty := none, cmp := false }
noncomputable def tyl : List (Nat × TI) := [(1, ti1), (2, ti2), (3, ti3), (4, ti4), (5, ti5), (6, ti6), (7, ti7), (8, ti8), (9, ti9), (10, ti10), (11, ti11), (12, ti12), (13, ti13), (14, ti14), (15, ti15), (16, ti16), (17, ti17), (18, ti18), (19, ti19), (20, ti20), (21, ti21), (22, ti22), (23, ti23), (25, ti25), (26, ti26), (27, ti27), (28, ti28), (29, ti29), (30, ti30), (31, ti31), (32, ti32), (34, ti34), (35, ti35), (36, ti36), (38, ti38), (39, ti39), (41, ti41), (42, ti42), (43, ti43), (44, ti44), (45, ti45), (46, ti46), (47, ti47), (48, ti48), (49, ti49), (51, ti51), (52, ti52), (53, ti53), (54, ti54), (55, ti55), (57, ti57), (58, ti58), (59, ti59), (60, ti60), (62, ti62), (63, ti63), (64, ti64), (65, ti65), (66, ti66), (67, ti67), (68, ti68), (69, ti69), (70, ti70), (71, ti71), (72, ti72), (74, ti74), (75, ti75), (76, ti76), (77, ti77), (78, ti78), (79, ti79), (80, ti80), (81, ti81), (82, ti82), (83, ti83), (84, ti84), (85, ti85), (86, ti86), (87, ti87), (88, ti88), (89, ti89), (90, ti90), (91, ti91), (92, ti92), (93, ti93), (94, ti94), (95, ti95), (96, ti96), (98, ti98), (99, ti99), (101, ti101), (102, ti102), (103, ti103), (104, ti104), (106, ti106), (107, ti107), (108, ti108), (109, ti109), (110, ti110), (111, ti111), (112, ti112), (113, ti113), (114, ti114), (115, ti115), (117, ti117), (118, ti118), (119, ti119), (123, ti123), (124, ti124), (125, ti125), (126, ti126), (127, ti127), (128, ti128), (129, ti129), (130, ti130)]
noncomputable def tys : Nat → Option TI := lookN tyl
noncomputable def fnl : List (Nat × Func) := [(0, Tryd.f0), (1, Tryd.f1), (2, Tryd.f2), (3, Tryd.f3), (4, Tryd.f4), (5, Tryd.f5), (6, Tryd.f6), (7, Tryd.f7), (8, Tryd.f8), (9, Tryd.f9), (10, Tryd.f10), (11, Tryd.f11), (12, Tryd.f12), (13, Tryd.f13), (14, Tryd.f14), (15, Tryd.f15), (16, Tryd.f16), (17, Tryd.f17), (18, Tryd.f18), (19, Tryd.f19), (20, Tryd.f20), (21, Tryd.f21), (22, Tryd.f22), (23, Tryd.f23), (24, Tryd.f24), (25, Tryd.f25), (26, Tryd.f26), (27, Tryd.f27), (28, Tryd.f28), (29, Tryd.f29), (30, Tryd.f30), (31, Tryd.f31), (32, Tryd.f32), (33, Tryd.f33), (34, Tryd.f34), (35, Tryd.f35), (36, Tryd.f36), (37, Tryd.f37), (38, Tryd.f38), (39, Tryd.f39), (40, Tryd.f40), (41, Tryd.f41), (42, Tryd.f42), (43, Tryd.f43), (44, Tryd.f44), (45, Tryd.f45), (46, Tryd.f46), (47, Tryd.f47), (48, Tryd.f48), (49, Tryd.f49), (50, Tryd.f50), (51, Tryd.f51), (52, Tryd.f52), (53, Tryd.f53), (54, Tryd.f54), (55, Tryd.f55), (56, Tryd.f56), (57, Tryd.f57), (58, Tryd.f58), (59, Tryd.f59), (60, Tryd.f60), (61, Tryd.f61), (62, Tryd.f62), (63, Tryd.f63), (64, Tryd.f64), (65, Tryd.f65), (66, Tryd.f66), (67, Tryd.f67), (68, Tryd.f68), (69, Tryd.f69), (70, Tryd.f70), (71, Tryd.f71), (72, Tryd.f72), (73, Tryd.f73), (74, Tryd.f74), (75, Tryd.f75), (76, Tryd.f76), (77, Tryd.f77), (78, Tryd.f78), (79, Tryd.f79), (80, Tryd.f80), (81, Tryd.f81), (82, Tryd.f82), (83, Tryd.f83), (84, Tryd.f84), (85, Tryd.f85), (86, Tryd.f86), (87, Tryd.f87), (88, Tryd.f88), (89, Tryd.f89), (90, Tryd.f90), (91, Tryd.f91), (92, Tryd.f92), (93, Tryd.f93), (94, Tryd.f94), (95, Tryd.f95), (96, Tryd.f96), (97, Tryd.f97), (98, Tryd.f98), (99, Tryd.f99), (100, Tryd.f100), (101, Tryd.f101), (102, Tryd.f102), (103, Tryd.f103), (104, Tryd.f104), (105, Tryd.f105), (106, Tryd.f106), (107, Tryd.f107), (108, Tryd.f108), (109, Tryd.f109), (110, Tryd.f110), (111, Tryd.f111), (112, Tryd.f112), (113, Tryd.f113), (114, Tryd.f114)]
noncomputable def fns : Nat → Option Func := lookN fnl
noncomputable def E0 : Env := mkE tys (fun _ => none) fns [] [] []
theorem tok1 : TOk Tryd.prog E0 1 ti1 := tok_of (by kernel_rfl) [ZU.nf] rfl (by kernel_rfl) (by intro τ h; cases h) (by kernel_rfl)
theorem tok2 : TOk Tryd.prog E0 2 ti2 := tok_of (by kernel_rfl) [ZU.d (.int .i64)] rfl (by kernel_rfl) (by intro τ h; cases h; kernel_rfl) (by kernel_rfl)
theorem tok3 : TOk Tryd.prog E0 3 ti3 := tok_of (by kernel_rfl) [ZU.d (.int .i64)] rfl (by kernel_rfl) (by intro τ h; cases h; kernel_rfl) (by kernel_rfl)
theorem tok4 : TOk Tryd.prog E0 4 ti4 := tok_of (by kernel_rfl) [ZU.d .bool] rfl (by kernel_rfl) (by intro τ h; cases h; kernel_rfl) (by kernel_rfl)
theorem tok5 : TOk Tryd.prog E0 5 ti5 := tok_of (by kernel_rfl) [ZU.d (.int .u8)] rfl (by kernel_rfl) (by intro τ h; cases h; kernel_rfl) (by kernel_rfl)
theorem tok6 : TOk Tryd.prog E0 6 ti6 := tok_of (by kernel_rfl) [ZU.d (.int .u8)] rfl (by kernel_rfl) (by intro τ h; cases h; kernel_rfl) (by kernel_rfl)
theorem tok7 : TOk Tryd.prog E0 7 ti7 := tok_of (by kernel_rfl) [ZU.d (.int .i64), ZU.d (.int .i64), ZU.d .bool, ZU.d (.int .u8)] rfl (by kernel_rfl) (by intro τ h; cases h; kernel_rfl) (by kernel_rfl)
theorem tok8 : TOk Tryd.prog E0 8 ti8 := tok_of (by kernel_rfl) [ZU.d (.int .i64), ZU.d (.int .i64), ZU.d .bool, ZU.d (.int .u8)] rfl (by kernel_rfl) (by intro τ h; cases h; kernel_rfl) (by kernel_rfl)
theorem tok9 : TOk Tryd.prog E0 9 ti9 := tok_of (by kernel_rfl) [ZU.d .str] rfl (by kernel_rfl) (by intro τ h; cases h; kernel_rfl) (by kernel_rfl)
theorem tok10 : TOk Tryd.prog E0 10 ti10 := tok_of (by kernel_rfl) [ZU.d .str] rfl (by kernel_rfl) (by intro τ h; cases h; kernel_rfl) (by kernel_rfl)
theorem tok11 : TOk Tryd.prog E0 11 ti11 := tok_of (by kernel_rfl) [ZU.d .str] rfl (by kernel_rfl) (by intro τ h; cases h; kernel_rfl) (by kernel_rfl)
theorem tok12 : TOk Tryd.prog E0 12 ti12 := tok_of (by kernel_rfl) [ZU.d (.int .u64)] rfl (by kernel_rfl) (by intro τ h; cases h; kernel_rfl) (by kernel_rfl)
theorem tok13 : TOk Tryd.prog E0 13 ti13 := tok_of (by kernel_rfl) [ZU.d .str, ZU.d (.int .u64)] rfl (by kernel_rfl) (by intro τ h; cases h; kernel_rfl) (by kernel_rfl)
theorem tok14 : TOk Tryd.prog E0 14 ti14 := tok_of (by kernel_rfl) [ZU.d .str, ZU.d (.int .u64)] rfl (by kernel_rfl) (by intro τ h; cases h; kernel_rfl) (by kernel_rfl)
theorem tok15 : TOk Tryd.prog E0 15 ti15 := tok_of (by kernel_rfl) [ZU.np] rfl (by kernel_rfl) (by intro τ h; cases h) (by kernel_rfl)
theorem tok16 : TOk Tryd.prog E0 16 ti16 := tok_of (by kernel_rfl) [ZU.np] rfl (by kernel_rfl) (by intro τ h; cases h) (by kernel_rfl)
theorem tok17 : TOk Tryd.prog E0 17 ti17 := tok_of (by kernel_rfl) [ZU.np] rfl (by kernel_rfl) (by intro τ h; cases h) (by kernel_rfl)
theorem tok18 : TOk Tryd.prog E0 18 ti18 := tok_of (by kernel_rfl) [ZU.np] rfl (by kernel_rfl) (by intro τ h; cases h) (by kernel_rfl)
theorem tok19 : TOk Tryd.prog E0 19 ti19 := tok_of (by kernel_rfl) [ZU.np] rfl (by kernel_rfl) (by intro τ h; cases h) (by kernel_rfl)
theorem tok20 : TOk Tryd.prog E0 20 ti20 := tok_of (by kernel_rfl) [ZU.ni] rfl (by kernel_rfl) (by intro τ h; cases h) (by kernel_rfl)
theorem tok21 : TOk Tryd.prog E0 21 ti21 := tok_of (by kernel_rfl) [ZU.d (.int .i32)] rfl (by kernel_rfl) (by intro τ h; cases h; kernel_rfl) (by kernel_rfl)
theorem tok22 : TOk Tryd.prog E0 22 ti22 := tok_of (by kernel_rfl) [ZU.nf] rfl (by kernel_rfl) (by intro τ h; cases h) (by kernel_rfl)
theorem tok23 : TOk Tryd.prog E0 23 ti23 := tok_of (by kernel_rfl) [ZU.d (.int .i64)] rfl (by kernel_rfl) (by intro τ h; cases h; kernel_rfl) (by kernel_rfl)
theorem tok25 : TOk Tryd.prog E0 25 ti25 := tok_of (by kernel_rfl) [ZU.nf] rfl (by kernel_rfl) (by intro τ h; cases h) (by kernel_rfl)
theorem tok26 : TOk Tryd.prog E0 26 ti26 := tok_of (by kernel_rfl) [ZU.nf] rfl (by kernel_rfl) (by intro τ h; cases h) (by kernel_rfl)
theorem tok27 : TOk Tryd.prog E0 27 ti27 := tok_of (by kernel_rfl) [ZU.nf] rfl (by kernel_rfl) (by intro τ h; cases h) (by kernel_rfl)
theorem tok28 : TOk Tryd.prog E0 28 ti28 := tok_of (by kernel_rfl) [ZU.nsl] rfl (by kernel_rfl) (by intro τ h; cases h; kernel_rfl) (by kernel_rfl)
theorem tok29 : TOk Tryd.prog E0 29 ti29 := tok_of (by kernel_rfl) [ZU.nsl, ZU.d (.int .i64)] rfl (by kernel_rfl) (by intro τ h; cases h; kernel_rfl) (by kernel_rfl)
theorem tok30 : TOk Tryd.prog E0 30 ti30 := tok_of (by kernel_rfl) [ZU.nsl, ZU.d (.int .i64)] rfl (by kernel_rfl) (by intro τ h; cases h; kernel_rfl) (by kernel_rfl)
theorem tok31 : TOk Tryd.prog E0 31 ti31 := tok_of (by kernel_rfl) [ZU.nf] rfl (by kernel_rfl) (by intro τ h; cases h) (by kernel_rfl)
theorem tok32 : TOk Tryd.prog E0 32 ti32 := tok_of (by kernel_rfl) [ZU.nsl] rfl (by kernel_rfl) (by intro τ h; cases h; kernel_rfl) (by kernel_rfl)
theorem tok34 : TOk Tryd.prog E0 34 ti34 := tok_of (by kernel_rfl) [ZU.nf] rfl (by kernel_rfl) (by intro τ h; cases h) (by kernel_rfl)
theorem tok35 : TOk Tryd.prog E0 35 ti35 := tok_of (by kernel_rfl) [ZU.d .str, ZU.d .bool, ZU.d .str, ZU.d (.int .i64)] rfl (by kernel_rfl) (by intro τ h; cases h; kernel_rfl) (by kernel_rfl)
theorem tok36 : TOk Tryd.prog E0 36 ti36 := tok_of (by kernel_rfl) [ZU.d .str, ZU.d .bool, ZU.d .str, ZU.d (.int .i64)] rfl (by kernel_rfl) (by intro τ h; cases h; kernel_rfl) (by kernel_rfl)
theorem tok38 : TOk Tryd.prog E0 38 ti38 := tok_of (by kernel_rfl) [ZU.nf] rfl (by kernel_rfl) (by intro τ h; cases h) (by kernel_rfl)
theorem tok39 : TOk Tryd.prog E0 39 ti39 := tok_of (by kernel_rfl) [ZU.nf] rfl (by kernel_rfl) (by intro τ h; cases h) (by kernel_rfl)
theorem tok41 : TOk Tryd.prog E0 41 ti41 := tok_of (by kernel_rfl) [ZU.nf] rfl (by kernel_rfl) (by intro τ h; cases h) (by kernel_rfl)
theorem tok42 : TOk Tryd.prog E0 42 ti42 := tok_of (by kernel_rfl) [ZU.nf] rfl (by kernel_rfl) (by intro τ h; cases h) (by kernel_rfl)
theorem tok43 : TOk Tryd.prog E0 43 ti43 := tok_of (by kernel_rfl) [ZU.nf] rfl (by kernel_rfl) (by intro τ h; cases h) (by kernel_rfl)
theorem tok44 : TOk Tryd.prog E0 44 ti44 := tok_of (by kernel_rfl) [ZU.nf] rfl (by kernel_rfl) (by intro τ h; cases h) (by kernel_rfl)
theorem tok45 : TOk Tryd.prog E0 45 ti45 := tok_of (by kernel_rfl) [ZU.nf] rfl (by kernel_rfl) (by intro τ h; cases h) (by kernel_rfl)
theorem tok46 : TOk Tryd.prog E0 46 ti46 := tok_of (by kernel_rfl) [ZU.nf] rfl (by kernel_rfl) (by intro τ h; cases h) (by kernel_rfl)
theorem tok47 : TOk Tryd.prog E0 47 ti47 := tok_of (by kernel_rfl) [ZU.nf] rfl (by kernel_rfl) (by intro τ h; cases h) (by kernel_rfl)
theorem tok48 : TOk Tryd.prog E0 48 ti48 := tok_of (by kernel_rfl) [ZU.nf] rfl (by kernel_rfl) (by intro τ h; cases h) (by kernel_rfl)
theorem tok49 : TOk Tryd.prog E0 49 ti49 := tok_of (by kernel_rfl) [ZU.nf] rfl (by kernel_rfl) (by intro τ h; cases h) (by kernel_rfl)
theorem tok51 : TOk Tryd.prog E0 51 ti51 := tok_of (by kernel_rfl) [ZU.nf] rfl (by kernel_rfl) (by intro τ h; cases h) (by kernel_rfl)
theorem tok52 : TOk Tryd.prog E0 52 ti52 := tok_of (by kernel_rfl) [ZU.np] rfl (by kernel_rfl) (by intro τ h; cases h) (by kernel_rfl)
theorem tok53 : TOk Tryd.prog E0 53 ti53 := tok_of (by kernel_rfl) [ZU.nsl, ZU.d (.int .i64)] rfl (by kernel_rfl) (by intro τ h; cases h; kernel_rfl) (by kernel_rfl)
theorem tok54 : TOk Tryd.prog E0 54 ti54 := tok_of (by kernel_rfl) [ZU.nsl, ZU.d (.int .i64)] rfl (by kernel_rfl) (by intro τ h; cases h; kernel_rfl) (by kernel_rfl)
theorem tok55 : TOk Tryd.prog E0 55 ti55 := tok_of (by kernel_rfl) [ZU.nf] rfl (by kernel_rfl) (by intro τ h; cases h) (by kernel_rfl)
theorem tok57 : TOk Tryd.prog E0 57 ti57 := tok_of (by kernel_rfl) [ZU.nf] rfl (by kernel_rfl) (by intro τ h; cases h) (by kernel_rfl)
theorem tok58 : TOk Tryd.prog E0 58 ti58 := tok_of (by kernel_rfl) [ZU.nf] rfl (by kernel_rfl) (by intro τ h; cases h) (by kernel_rfl)
theorem tok59 : TOk Tryd.prog E0 59 ti59 := tok_of (by kernel_rfl) [ZU.nf] rfl (by kernel_rfl) (by intro τ h; cases h) (by kernel_rfl)
theorem tok60 : TOk Tryd.prog E0 60 ti60 := tok_of (by kernel_rfl) [ZU.nf] rfl (by kernel_rfl) (by intro τ h; cases h) (by kernel_rfl)
theorem tok62 : TOk Tryd.prog E0 62 ti62 := tok_of (by kernel_rfl) [ZU.nf] rfl (by kernel_rfl) (by intro τ h; cases h) (by kernel_rfl)
theorem tok63 : TOk Tryd.prog E0 63 ti63 := tok_of (by kernel_rfl) [ZU.nf] rfl (by kernel_rfl) (by intro τ h; cases h) (by kernel_rfl)
theorem tok64 : TOk Tryd.prog E0 64 ti64 := tok_of (by kernel_rfl) [ZU.nf] rfl (by kernel_rfl) (by intro τ h; cases h) (by kernel_rfl)
theorem tok65 : TOk Tryd.prog E0 65 ti65 := tok_of (by kernel_rfl) [ZU.nf] rfl (by kernel_rfl) (by intro τ h; cases h) (by kernel_rfl)
theorem tok66 : TOk Tryd.prog E0 66 ti66 := tok_of (by kernel_rfl) [ZU.np] rfl (by kernel_rfl) (by intro τ h; cases h) (by kernel_rfl)
theorem tok67 : TOk Tryd.prog E0 67 ti67 := tok_of (by kernel_rfl) [ZU.nsl] rfl (by kernel_rfl) (by intro τ h; cases h; kernel_rfl) (by kernel_rfl)
theorem tok68 : TOk Tryd.prog E0 68 ti68 := tok_of (by kernel_rfl) [ZU.np, ZU.nsl] rfl (by kernel_rfl) (by intro τ h; cases h) (by kernel_rfl)
theorem tok69 : TOk Tryd.prog E0 69 ti69 := tok_of (by kernel_rfl) [ZU.np, ZU.nsl] rfl (by kernel_rfl) (by intro τ h; cases h) (by kernel_rfl)
theorem tok70 : TOk Tryd.prog E0 70 ti70 := tok_of (by kernel_rfl) [ZU.nf] rfl (by kernel_rfl) (by intro τ h; cases h) (by kernel_rfl)
theorem tok71 : TOk Tryd.prog E0 71 ti71 := tok_of (by kernel_rfl) [ZU.ni] rfl (by kernel_rfl) (by intro τ h; cases h) (by kernel_rfl)
theorem tok72 : TOk Tryd.prog E0 72 ti72 := tok_of (by kernel_rfl) [ZU.ni] rfl (by kernel_rfl) (by intro τ h; cases h) (by kernel_rfl)
theorem tok74 : TOk Tryd.prog E0 74 ti74 := tok_of (by kernel_rfl) [ZU.nf] rfl (by kernel_rfl) (by intro τ h; cases h) (by kernel_rfl)
theorem tok75 : TOk Tryd.prog E0 75 ti75 := tok_of (by kernel_rfl) [ZU.nf] rfl (by kernel_rfl) (by intro τ h; cases h) (by kernel_rfl)
theorem tok76 : TOk Tryd.prog E0 76 ti76 := tok_of (by kernel_rfl) [ZU.nf] rfl (by kernel_rfl) (by intro τ h; cases h) (by kernel_rfl)
theorem tok77 : TOk Tryd.prog E0 77 ti77 := tok_of (by kernel_rfl) [ZU.nf] rfl (by kernel_rfl) (by intro τ h; cases h) (by kernel_rfl)
theorem tok78 : TOk Tryd.prog E0 78 ti78 := tok_of (by kernel_rfl) [ZU.nf] rfl (by kernel_rfl) (by intro τ h; cases h) (by kernel_rfl)
theorem tok79 : TOk Tryd.prog E0 79 ti79 := tok_of (by kernel_rfl) [ZU.nf] rfl (by kernel_rfl) (by intro τ h; cases h) (by kernel_rfl)
theorem tok80 : TOk Tryd.prog E0 80 ti80 := tok_of (by kernel_rfl) [ZU.nf] rfl (by kernel_rfl) (by intro τ h; cases h) (by kernel_rfl)
theorem tok81 : TOk Tryd.prog E0 81 ti81 := tok_of (by kernel_rfl) [ZU.nf] rfl (by kernel_rfl) (by intro τ h; cases h) (by kernel_rfl)
theorem tok82 : TOk Tryd.prog E0 82 ti82 := tok_of (by kernel_rfl) [ZU.nf] rfl (by kernel_rfl) (by intro τ h; cases h) (by kernel_rfl)
theorem tok83 : TOk Tryd.prog E0 83 ti83 := tok_of (by kernel_rfl) [ZU.nf] rfl (by kernel_rfl) (by intro τ h; cases h) (by kernel_rfl)
theorem tok84 : TOk Tryd.prog E0 84 ti84 := tok_of (by kernel_rfl) [ZU.nf] rfl (by kernel_rfl) (by intro τ h; cases h) (by kernel_rfl)
theorem tok85 : TOk Tryd.prog E0 85 ti85 := tok_of (by kernel_rfl) [ZU.nf] rfl (by kernel_rfl) (by intro τ h; cases h) (by kernel_rfl)
theorem tok86 : TOk Tryd.prog E0 86 ti86 := tok_of (by kernel_rfl) [ZU.nf] rfl (by kernel_rfl) (by intro τ h; cases h) (by kernel_rfl)
theorem tok87 : TOk Tryd.prog E0 87 ti87 := tok_of (by kernel_rfl) [ZU.np] rfl (by kernel_rfl) (by intro τ h; cases h) (by kernel_rfl)
theorem tok88 : TOk Tryd.prog E0 88 ti88 := tok_of (by kernel_rfl) [ZU.d (.int .u64)] rfl (by kernel_rfl) (by intro τ h; cases h; kernel_rfl) (by kernel_rfl)
theorem tok89 : TOk Tryd.prog E0 89 ti89 := tok_of (by kernel_rfl) [ZU.nf] rfl (by kernel_rfl) (by intro τ h; cases h) (by kernel_rfl)
theorem tok90 : TOk Tryd.prog E0 90 ti90 := tok_of (by kernel_rfl) [ZU.nf] rfl (by kernel_rfl) (by intro τ h; cases h) (by kernel_rfl)
theorem tok91 : TOk Tryd.prog E0 91 ti91 := tok_of (by kernel_rfl) [ZU.nf] rfl (by kernel_rfl) (by intro τ h; cases h) (by kernel_rfl)
theorem tok92 : TOk Tryd.prog E0 92 ti92 := tok_of (by kernel_rfl) [ZU.nf] rfl (by kernel_rfl) (by intro τ h; cases h) (by kernel_rfl)
theorem tok93 : TOk Tryd.prog E0 93 ti93 := tok_of (by kernel_rfl) [ZU.nf] rfl (by kernel_rfl) (by intro τ h; cases h) (by kernel_rfl)
theorem tok94 : TOk Tryd.prog E0 94 ti94 := tok_of (by kernel_rfl) [ZU.nf] rfl (by kernel_rfl) (by intro τ h; cases h) (by kernel_rfl)
theorem tok95 : TOk Tryd.prog E0 95 ti95 := tok_of (by kernel_rfl) [ZU.d (.arr 256 .bool)] rfl (by kernel_rfl) (by intro τ h; cases h; kernel_rfl) (by kernel_rfl)
theorem tok96 : TOk Tryd.prog E0 96 ti96 := tok_of (by kernel_rfl) [ZU.d (.arr 256 .bool)] rfl (by kernel_rfl) (by intro τ h; cases h; kernel_rfl) (by kernel_rfl)
theorem tok98 : TOk Tryd.prog E0 98 ti98 := tok_of (by kernel_rfl) [ZU.nf] rfl (by kernel_rfl) (by intro τ h; cases h) (by kernel_rfl)
theorem tok99 : TOk Tryd.prog E0 99 ti99 := tok_of (by kernel_rfl) [ZU.nf] rfl (by kernel_rfl) (by intro τ h; cases h) (by kernel_rfl)
theorem tok101 : TOk Tryd.prog E0 101 ti101 := tok_of (by kernel_rfl) [ZU.nf] rfl (by kernel_rfl) (by intro τ h; cases h) (by kernel_rfl)
theorem tok102 : TOk Tryd.prog E0 102 ti102 := tok_of (by kernel_rfl) [ZU.nf] rfl (by kernel_rfl) (by intro τ h; cases h) (by kernel_rfl)
theorem tok103 : TOk Tryd.prog E0 103 ti103 := tok_of (by kernel_rfl) [ZU.nf] rfl (by kernel_rfl) (by intro τ h; cases h) (by kernel_rfl)
theorem tok104 : TOk Tryd.prog E0 104 ti104 := tok_of (by kernel_rfl) [ZU.nf] rfl (by kernel_rfl) (by intro τ h; cases h) (by kernel_rfl)
theorem tok106 : TOk Tryd.prog E0 106 ti106 := tok_of (by kernel_rfl) [ZU.nf] rfl (by kernel_rfl) (by intro τ h; cases h) (by kernel_rfl)
theorem tok107 : TOk Tryd.prog E0 107 ti107 := tok_of (by kernel_rfl) [ZU.nf] rfl (by kernel_rfl) (by intro τ h; cases h) (by kernel_rfl)
theorem tok108 : TOk Tryd.prog E0 108 ti108 := tok_of (by kernel_rfl) [ZU.nf] rfl (by kernel_rfl) (by intro τ h; cases h) (by kernel_rfl)
theorem tok109 : TOk Tryd.prog E0 109 ti109 := tok_of (by kernel_rfl) [ZU.np] rfl (by kernel_rfl) (by intro τ h; cases h) (by kernel_rfl)
theorem tok110 : TOk Tryd.prog E0 110 ti110 := tok_of (by kernel_rfl) [ZU.nf] rfl (by kernel_rfl) (by intro τ h; cases h) (by kernel_rfl)
theorem tok111 : TOk Tryd.prog E0 111 ti111 := tok_of (by kernel_rfl) [ZU.d (.arr 256 (.int .u8))] rfl (by kernel_rfl) (by intro τ h; cases h; kernel_rfl) (by kernel_rfl)
theorem tok112 : TOk Tryd.prog E0 112 ti112 := tok_of (by kernel_rfl) [ZU.d (.int .u8), ZU.d (.int .u8)] rfl (by kernel_rfl) (by intro τ h; cases h; kernel_rfl) (by kernel_rfl)
theorem tok113 : TOk Tryd.prog E0 113 ti113 := tok_of (by kernel_rfl) [ZU.d (.int .u8), ZU.d (.int .u8)] rfl (by kernel_rfl) (by intro τ h; cases h; kernel_rfl) (by kernel_rfl)
theorem tok114 : TOk Tryd.prog E0 114 ti114 := tok_of (by kernel_rfl) [ZU.d (.arr 16 Y112)] rfl (by kernel_rfl) (by intro τ h; cases h; kernel_rfl) (by kernel_rfl)
theorem tok115 : TOk Tryd.prog E0 115 ti115 := tok_of (by kernel_rfl) [ZU.d (.int .u32)] rfl (by kernel_rfl) (by intro τ h; cases h; kernel_rfl) (by kernel_rfl)
theorem tok117 : TOk Tryd.prog E0 117 ti117 := tok_of (by kernel_rfl) [ZU.nf] rfl (by kernel_rfl) (by intro τ h; cases h) (by kernel_rfl)
theorem tok118 : TOk Tryd.prog E0 118 ti118 := tok_of (by kernel_rfl) [ZU.np, ZU.np, ZU.np, ZU.d .str] rfl (by kernel_rfl) (by intro τ h; cases h) (by kernel_rfl)
theorem tok119 : TOk Tryd.prog E0 119 ti119 := tok_of (by kernel_rfl) [ZU.np, ZU.np, ZU.np, ZU.d .str] rfl (by kernel_rfl) (by intro τ h; cases h) (by kernel_rfl)
theorem tok123 : TOk Tryd.prog E0 123 ti123 := tok_of (by kernel_rfl) [ZU.nf] rfl (by kernel_rfl) (by intro τ h; cases h) (by kernel_rfl)
theorem tok124 : TOk Tryd.prog E0 124 ti124 := tok_of (by kernel_rfl) [ZU.d (.int .u8)] rfl (by kernel_rfl) (by intro τ h; cases h; kernel_rfl) (by kernel_rfl)
theorem tok125 : TOk Tryd.prog E0 125 ti125 := tok_of (by kernel_rfl) [ZU.d (.int .u8)] rfl (by kernel_rfl) (by intro τ h; cases h; kernel_rfl) (by kernel_rfl)
theorem tok126 : TOk Tryd.prog E0 126 ti126 := tok_of (by kernel_rfl) [ZU.nf] rfl (by kernel_rfl) (by intro τ h; cases h) (by kernel_rfl)
theorem tok127 : TOk Tryd.prog E0 127 ti127 := tok_of (by kernel_rfl) [ZU.d (.int .i32)] rfl (by kernel_rfl) (by intro τ h; cases h; kernel_rfl) (by kernel_rfl)
theorem tok128 : TOk Tryd.prog E0 128 ti128 := tok_of (by kernel_rfl) [ZU.d (.int .i32)] rfl (by kernel_rfl) (by intro τ h; cases h; kernel_rfl) (by kernel_rfl)
theorem tok129 : TOk Tryd.prog E0 129 ti129 := tok_of (by kernel_rfl) [ZU.d (.int .u64), ZU.d (.int .u64), ZU.d (.int .u32), ZU.d (.int .u8), ZU.d (.int .u8), ZU.d (.int .u8), ZU.d (.int .u8), ZU.nf, ZU.np, ZU.d (.int .i32), ZU.d (.int .i32)] rfl (by kernel_rfl) (by intro τ h; cases h) (by kernel_rfl)
theorem tok130 : TOk Tryd.prog E0 130 ti130 := tok_of (by kernel_rfl) [ZU.d (.int .u64), ZU.d (.int .u64), ZU.d (.int .u32), ZU.d (.int .u8), ZU.d (.int .u8), ZU.d (.int .u8), ZU.d (.int .u8), ZU.nf, ZU.np, ZU.d (.int .i32), ZU.d (.int .i32)] rfl (by kernel_rfl) (by intro τ h; cases h) (by kernel_rfl)
theorem tysOk : ∀ p ∈ tyl, TOk Tryd.prog E0 p.1 p.2 := by
  unfold tyl
  simp only [List.forall_mem_cons]
  exact ⟨tok1, tok2, tok3, tok4, tok5, tok6, tok7, tok8, tok9, tok10, tok11, tok12, tok13, tok14, tok15, tok16, tok17, tok18, tok19, tok20, tok21, tok22, tok23, tok25, tok26, tok27, tok28, tok29, tok30, tok31, tok32, tok34, tok35, tok36, tok38, tok39, tok41, tok42, tok43, tok44, tok45, tok46, tok47, tok48, tok49, tok51, tok52, tok53, tok54, tok55, tok57, tok58, tok59, tok60, tok62, tok63, tok64, tok65, tok66, tok67, tok68, tok69, tok70, tok71, tok72, tok74, tok75, tok76, tok77, tok78, tok79, tok80, tok81, tok82, tok83, tok84, tok85, tok86, tok87, tok88, tok89, tok90, tok91, tok92, tok93, tok94, tok95, tok96, tok98, tok99, tok101, tok102, tok103, tok104, tok106, tok107, tok108, tok109, tok110, tok111, tok112, tok113, tok114, tok115, tok117, tok118, tok119, tok123, tok124, tok125, tok126, tok127, tok128, tok129, tok130, fun _ h => by cases h⟩
theorem fnsOk : ∀ p ∈ fnl, Tryd.prog.funcs[p.1]? = some p.2 ∧ p.2.name ≠ "runtime.NumGoroutine" := by
  unfold fnl
  simp only [List.forall_mem_cons]
  exact ⟨⟨Tryd.func0, of_decide_eq_true (by kernel_rfl)⟩, ⟨Tryd.func1, of_decide_eq_true (by kernel_rfl)⟩, ⟨Tryd.func2, of_decide_eq_true (by kernel_rfl)⟩, ⟨Tryd.func3, of_decide_eq_true (by kernel_rfl)⟩, ⟨Tryd.func4, of_decide_eq_true (by kernel_rfl)⟩, ⟨Tryd.func5, of_decide_eq_true (by kernel_rfl)⟩, ⟨Tryd.func6, of_decide_eq_true (by kernel_rfl)⟩, ⟨Tryd.func7, of_decide_eq_true (by kernel_rfl)⟩, ⟨Tryd.func8, of_decide_eq_true (by kernel_rfl)⟩, ⟨Tryd.func9, of_decide_eq_true (by kernel_rfl)⟩, ⟨Tryd.func10, of_decide_eq_true (by kernel_rfl)⟩, ⟨Tryd.func11, of_decide_eq_true (by kernel_rfl)⟩, ⟨Tryd.func12, of_decide_eq_true (by kernel_rfl)⟩, ⟨Tryd.func13, of_decide_eq_true (by kernel_rfl)⟩, ⟨Tryd.func14, of_decide_eq_true (by kernel_rfl)⟩, ⟨Tryd.func15, of_decide_eq_true (by kernel_rfl)⟩, ⟨Tryd.func16, of_decide_eq_true (by kernel_rfl)⟩, ⟨Tryd.func17, of_decide_eq_true (by kernel_rfl)⟩, ⟨Tryd.func18, of_decide_eq_true (by kernel_rfl)⟩, ⟨Tryd.func19, of_decide_eq_true (by kernel_rfl)⟩, ⟨Tryd.func20, of_decide_eq_true (by kernel_rfl)⟩, ⟨Tryd.func21, of_decide_eq_true (by kernel_rfl)⟩, ⟨Tryd.func22, of_decide_eq_true (by kernel_rfl)⟩, ⟨Tryd.func23, of_decide_eq_true (by kernel_rfl)⟩, ⟨Tryd.func24, of_decide_eq_true (by kernel_rfl)⟩, ⟨Tryd.func25, of_decide_eq_true (by kernel_rfl)⟩, ⟨Tryd.func26, of_decide_eq_true (by kernel_rfl)⟩, ⟨Tryd.func27, of_decide_eq_true (by kernel_rfl)⟩, ⟨Tryd.func28, of_decide_eq_true (by kernel_rfl)⟩, ⟨Tryd.func29, of_decide_eq_true (by kernel_rfl)⟩, ⟨Tryd.func30, of_decide_eq_true (by kernel_rfl)⟩, ⟨Tryd.func31, of_decide_eq_true (by kernel_rfl)⟩, ⟨Tryd.func32, of_decide_eq_true (by kernel_rfl)⟩, ⟨Tryd.func33, of_decide_eq_true (by kernel_rfl)⟩, ⟨Tryd.func34, of_decide_eq_true (by kernel_rfl)⟩, ⟨Tryd.func35, of_decide_eq_true (by kernel_rfl)⟩, ⟨Tryd.func36, of_decide_eq_true (by kernel_rfl)⟩, ⟨Tryd.func37, of_decide_eq_true (by kernel_rfl)⟩, ⟨Tryd.func38, of_decide_eq_true (by kernel_rfl)⟩, ⟨Tryd.func39, of_decide_eq_true (by kernel_rfl)⟩, ⟨Tryd.func40, of_decide_eq_true (by kernel_rfl)⟩, ⟨Tryd.func41, of_decide_eq_true (by kernel_rfl)⟩, ⟨Tryd.func42, of_decide_eq_true (by kernel_rfl)⟩, ⟨Tryd.func43, of_decide_eq_true (by kernel_rfl)⟩, ⟨Tryd.func44, of_decide_eq_true (by kernel_rfl)⟩, ⟨Tryd.func45, of_decide_eq_true (by kernel_rfl)⟩, ⟨Tryd.func46, of_decide_eq_true (by kernel_rfl)⟩, ⟨Tryd.func47, of_decide_eq_true (by kernel_rfl)⟩, ⟨Tryd.func48, of_decide_eq_true (by kernel_rfl)⟩, ⟨Tryd.func49, of_decide_eq_true (by kernel_rfl)⟩, ⟨Tryd.func50, of_decide_eq_true (by kernel_rfl)⟩, ⟨Tryd.func51, of_decide_eq_true (by kernel_rfl)⟩, ⟨Tryd.func52, of_decide_eq_true (by kernel_rfl)⟩, ⟨Tryd.func53, of_decide_eq_true (by kernel_rfl)⟩, ⟨Tryd.func54, of_decide_eq_true (by kernel_rfl)⟩, ⟨Tryd.func55, of_decide_eq_true (by kernel_rfl)⟩, ⟨Tryd.func56, of_decide_eq_true (by kernel_rfl)⟩, ⟨Tryd.func57, of_decide_eq_true (by kernel_rfl)⟩, ⟨Tryd.func58, of_decide_eq_true (by kernel_rfl)⟩, ⟨Tryd.func59, of_decide_eq_true (by kernel_rfl)⟩, ⟨Tryd.func60, of_decide_eq_true (by kernel_rfl)⟩, ⟨Tryd.func61, of_decide_eq_true (by kernel_rfl)⟩, ⟨Tryd.func62, of_decide_eq_true (by kernel_rfl)⟩, ⟨Tryd.func63, of_decide_eq_true (by kernel_rfl)⟩, ⟨Tryd.func64, of_decide_eq_true (by kernel_rfl)⟩, ⟨Tryd.func65, of_decide_eq_true (by kernel_rfl)⟩, ⟨Tryd.func66, of_decide_eq_true (by kernel_rfl)⟩, ⟨Tryd.func67, of_decide_eq_true (by kernel_rfl)⟩, ⟨Tryd.func68, of_decide_eq_true (by kernel_rfl)⟩, ⟨Tryd.func69, of_decide_eq_true (by kernel_rfl)⟩, ⟨Tryd.func70, of_decide_eq_true (by kernel_rfl)⟩, ⟨Tryd.func71, of_decide_eq_true (by kernel_rfl)⟩, ⟨Tryd.func72, of_decide_eq_true (by kernel_rfl)⟩, ⟨Tryd.func73, of_decide_eq_true (by kernel_rfl)⟩, ⟨Tryd.func74, of_decide_eq_true (by kernel_rfl)⟩, ⟨Tryd.func75, of_decide_eq_true (by kernel_rfl)⟩, ⟨Tryd.func76, of_decide_eq_true (by kernel_rfl)⟩, ⟨Tryd.func77, of_decide_eq_true (by kernel_rfl)⟩, ⟨Tryd.func78, of_decide_eq_true (by kernel_rfl)⟩, ⟨Tryd.func79, of_decide_eq_true (by kernel_rfl)⟩, ⟨Tryd.func80, of_decide_eq_true (by kernel_rfl)⟩, ⟨Tryd.func81, of_decide_eq_true (by kernel_rfl)⟩, ⟨Tryd.func82, of_decide_eq_true (by kernel_rfl)⟩, ⟨Tryd.func83, of_decide_eq_true (by kernel_rfl)⟩, ⟨Tryd.func84, of_decide_eq_true (by kernel_rfl)⟩, ⟨Tryd.func85, of_decide_eq_true (by kernel_rfl)⟩, ⟨Tryd.func86, of_decide_eq_true (by kernel_rfl)⟩, ⟨Tryd.func87, of_decide_eq_true (by kernel_rfl)⟩, ⟨Tryd.func88, of_decide_eq_true (by kernel_rfl)⟩, ⟨Tryd.func89, of_decide_eq_true (by kernel_rfl)⟩, ⟨Tryd.func90, of_decide_eq_true (by kernel_rfl)⟩, ⟨Tryd.func91, of_decide_eq_true (by kernel_rfl)⟩, ⟨Tryd.func92, of_decide_eq_true (by kernel_rfl)⟩, ⟨Tryd.func93, of_decide_eq_true (by kernel_rfl)⟩, ⟨Tryd.func94, of_decide_eq_true (by kernel_rfl)⟩, ⟨Tryd.func95, of_decide_eq_true (by kernel_rfl)⟩, ⟨Tryd.func96, of_decide_eq_true (by kernel_rfl)⟩, ⟨Tryd.func97, of_decide_eq_true (by kernel_rfl)⟩, ⟨Tryd.func98, of_decide_eq_true (by kernel_rfl)⟩, ⟨Tryd.func99, of_decide_eq_true (by kernel_rfl)⟩, ⟨Tryd.func100, of_decide_eq_true (by kernel_rfl)⟩, ⟨Tryd.func101, of_decide_eq_true (by kernel_rfl)⟩, ⟨Tryd.func102, of_decide_eq_true (by kernel_rfl)⟩, ⟨Tryd.func103, of_decide_eq_true (by kernel_rfl)⟩, ⟨Tryd.func104, of_decide_eq_true (by kernel_rfl)⟩, ⟨Tryd.func105, of_decide_eq_true (by kernel_rfl)⟩, ⟨Tryd.func106, of_decide_eq_true (by kernel_rfl)⟩, ⟨Tryd.func107, of_decide_eq_true (by kernel_rfl)⟩, ⟨Tryd.func108, of_decide_eq_true (by kernel_rfl)⟩, ⟨Tryd.func109, of_decide_eq_true (by kernel_rfl)⟩, ⟨Tryd.func110, of_decide_eq_true (by kernel_rfl)⟩, ⟨Tryd.func111, of_decide_eq_true (by kernel_rfl)⟩, ⟨Tryd.func112, of_decide_eq_true (by kernel_rfl)⟩, ⟨Tryd.func113, of_decide_eq_true (by kernel_rfl)⟩, ⟨Tryd.func114, of_decide_eq_true (by kernel_rfl)⟩, fun _ h => by cases h⟩
noncomputable def gl : Nat → Option ((t : Ty) × t.den) := fun _ => none
theorem seqOk : SeqOk Tryd.prog tys := by
  intro ty ti τ h _ _ hc
  have := lookN_mem h
  have key : ∀ p ∈ tyl, p.2.cmp = false := by
    unfold tyl
    simp only [List.forall_mem_cons]
    exact ⟨rfl, rfl, rfl, rfl, rfl, rfl, rfl, rfl, rfl, rfl, rfl, rfl, rfl, rfl, rfl, rfl, rfl, rfl, rfl, rfl, rfl, rfl, rfl, rfl, rfl, rfl, rfl, rfl, rfl, rfl, rfl, rfl, rfl, rfl, rfl, rfl, rfl, rfl, rfl, rfl, rfl, rfl, rfl, rfl, rfl, rfl, rfl, rfl, rfl, rfl, rfl, rfl, rfl, rfl, rfl, rfl, rfl, rfl, rfl, rfl, rfl, rfl, rfl, rfl, rfl, rfl, rfl, rfl, rfl, rfl, rfl, rfl, rfl, rfl, rfl, rfl, rfl, rfl, rfl, rfl, rfl, rfl, rfl, rfl, rfl, rfl, rfl, rfl, rfl, rfl, rfl, rfl, rfl, rfl, rfl, rfl, rfl, rfl, rfl, rfl, rfl, rfl, rfl, rfl, rfl, rfl, rfl, rfl, rfl, rfl, rfl, rfl, rfl, rfl, rfl, fun _ h => by cases h⟩
  rw [key _ this] at hc
  cases hc
theorem seatOk : SeatOk Tryd.prog tys fns := ⟨fun t ti h => tysOk _ (lookN_mem h), fun f fn h => fnsOk _ (lookN_mem h), seqOk⟩
end Go.Proofs.YtholnbknimfbhaaDoor

set_option linter.unusedVariables false
open Go.Proofs
namespace Go.Proofs.YtholnbknimfbhaaDoor
open Go Go.Fy Go.RowKit

noncomputable def cIndexByte : CP := { args := [.str, .int .u8], res := [.int .i64], pre := fun _ => true, spec := fun xs => (Lib.indexByte xs.1 xs.2.1.toNat.toUInt8, ()) }
noncomputable def cCount : CP := { args := [.str, .int .u8], res := [.int .i64], pre := fun _ => true, spec := fun xs => (((Lib.countByte xs.1 xs.2.1.toNat.toUInt8 : Nat) : Int), ()) }

theorem strByte_inv {w : World} {ok : Nat → Prop} {xs : DenL [.str, .int .u8]} {vs : List Value} (h : OutR.DVs w ok [.str, .int .u8] xs vs) : vs.toArray = #[.string ⟨xs.1.toArray⟩, .int .u8 xs.2.1] := by
  obtain ⟨v, r, rfl, h1, v2, r2, rfl, h2, h3⟩ := h
  have h3 : r2 = [] := h3
  rw [dStr_inv h1, dInt_inv h2, h3]

theorem indexByteOk : CpOk Tryd.prog gl 90 cIndexByte := by
  intro w ok xs vs o hlt hg hv hf
  have hf : some (Out.ret (Lib.indexByte xs.1 xs.2.1.toNat.toUInt8, ())) = some o := hf
  injection hf with hf
  subst hf
  refine .inr ⟨.int .i64 (Lib.indexByte xs.1 xs.2.1.toNat.toUInt8), w, ?_, ⟨_, rfl, dInt .i64 _⟩, Below.refl _ _⟩
  rw [strByte_inv hv, run_callFunc_extern Tryd.func90 (by kernel_rfl) (by kernel_rfl) (by kernel_rfl) (e := Extern.BytealgIndexByte.indexByte) (by kernel_rfl), Lib.run_indexByteString]
  rfl
theorem countOk : CpOk Tryd.prog gl 78 cCount := by
  intro w ok xs vs o hlt hg hv hf
  have hf : some (Out.ret (((Lib.countByte xs.1 xs.2.1.toNat.toUInt8 : Nat) : Int), ())) = some o := hf
  injection hf with hf
  subst hf
  refine .inr ⟨.int .i64 (Lib.countByte xs.1 xs.2.1.toNat.toUInt8 : Nat), w, ?_, ⟨_, rfl, dInt .i64 _⟩, Below.refl _ _⟩
  rw [strByte_inv hv, run_callFunc_extern Tryd.func78 (by kernel_rfl) (by kernel_rfl) (by kernel_rfl) (e := Extern.BytealgCount.count) (by kernel_rfl), Lib.run_countString]
  rfl
end Go.Proofs.YtholnbknimfbhaaDoor

set_option linter.unusedVariables false
set_option linter.unusedSimpArgs false
set_option maxRecDepth 100000
open Go.Proofs
namespace Go.Proofs.YtholnbknimfbhaaDoor
open Go Go.Fy Go.RowKit

noncomputable def P32_0 : SP := { ts := [(.hole .str), (.hole .str), (.hole (.int .i64)), (.hole (.int .i64)), .un, .un, .un, .un, .nsl, (.ro 0 .h (.k 0) .h), (.hole (.int .i64)), .un, .un, .un, .un, .un, .un, .un, .un, .un, .un, .un, .un, .un, .un, .un, .un, .un, .un, .un, .un, .un, .un, .un, .un, .un, .un, .un, .un, .un, .un, .un, .un, .un, .un, .un, .un, .un, .un, .un, .un, .un, .un, .un, .un, .un, .un, .un, .un, .un, .un, .un, .un, .un, .un, .un], h := [(.row 9 .str .h)], df := [] }
noncomputable def P32_1 : SP := { ts := [(.hole .str), (.cs [47]), (.ci .i64 (0)), (.hole (.int .i64)), .un, .un, .un, .un, .nsl, (.ro 0 .h (.k 0) .h), (.hole (.int .i64)), .un, .un, .un, .un, .un, .un, .un, .un, .un, .un, .un, .un, .un, .un, .un, .un, .un, .un, .un, .un, .un, .un, .un, .un, .un, .un, .un, .un, .un, .un, .un, .un, .un, .un, .un, .un, .un, .un, .un, .un, .un, .un, .un, .un, .un, .un, .un, .un, .un, .un, .un, .un, .un, .un, .un], h := [(.row 9 .str .h)], df := [] }
noncomputable def T32_0_0 {ρ : Type} (k : Nat) (N0 : (List UInt8) → Int → (List (List UInt8)) → Option ρ) (K0 : (List UInt8) → Int → (List (List UInt8)) → Option ρ) (t3 : Int) (t9v : Nat) (t9n : Nat) (h0v : Nat) (t0 : List UInt8) (t10 : Int) (h0r : List (List UInt8)) : Option ρ :=
  bif (decide (t10 < t3)) then (
    bif (([47] : List UInt8) == t0) then (
      if (0 ≤ (0 : Int) ∧ (0 : Int) ≤ (0 : Int) ∧ (0 : Int) ≤ ((t0).length : Int)) then (
        if (t9v = h0v ∧ tsh .str = [none]) then (
          if (inR t10 t9n) then (
            if (t9v = h0v) then (
              if (0 ≤ (1 : Int) ∧ (1 : Int) ≤ ((t0).length : Int) ∧ ((t0).length : Int) ≤ ((t0).length : Int)) then (
                N0 (cutL t0 1 (t0).length) (IntKind.wrap .i64 (t10 + (1 : Int))) (List.set h0r (0 + (t10).toNat) (cutL t0 0 0))) else none) else none) else none) else none) else none)
    else (
      bif (decide ((Lib.indexByte t0 ((47 : Int)).toNat.toUInt8) < (0 : Int))) then (
        K0 t0 t10 h0r)
      else (
        if (0 ≤ (0 : Int) ∧ (0 : Int) ≤ (IntKind.wrap .i64 ((Lib.indexByte t0 ((47 : Int)).toNat.toUInt8) + (0 : Int))) ∧ (IntKind.wrap .i64 ((Lib.indexByte t0 ((47 : Int)).toNat.toUInt8) + (0 : Int))) ≤ ((t0).length : Int)) then (
          if (t9v = h0v ∧ tsh .str = [none]) then (
            if (inR t10 t9n) then (
              if (t9v = h0v) then (
                if (0 ≤ (IntKind.wrap .i64 ((Lib.indexByte t0 ((47 : Int)).toNat.toUInt8) + (1 : Int))) ∧ (IntKind.wrap .i64 ((Lib.indexByte t0 ((47 : Int)).toNat.toUInt8) + (1 : Int))) ≤ ((t0).length : Int) ∧ ((t0).length : Int) ≤ ((t0).length : Int)) then (
                  N0 (cutL t0 ((IntKind.wrap .i64 ((Lib.indexByte t0 ((47 : Int)).toNat.toUInt8) + (1 : Int)))).toNat (t0).length) (IntKind.wrap .i64 (t10 + (1 : Int))) (List.set h0r (0 + (t10).toNat) (cutL t0 0 ((IntKind.wrap .i64 ((Lib.indexByte t0 ((47 : Int)).toNat.toUInt8) + (0 : Int)))).toNat))) else none) else none) else none) else none) else none)))
  else (
    K0 t0 t10 h0r)
noncomputable def L32_0_0 {ρ : Type} (K0 : (List UInt8) → Int → (List (List UInt8)) → Option ρ) (k : Nat) (t3 : Int) (t9v : Nat) (t9n : Nat) (h0v : Nat) : Nat → (List UInt8) → Int → (List (List UInt8)) → Option ρ
  | 0, _, _, _ => none
  | n + 1, t0, t10, h0r => T32_0_0 k (L32_0_0 K0 k t3 t9v t9n h0v n) K0 t3 t9v t9n h0v t0 t10 h0r
noncomputable def en32_0 : LE := { code := (subC [1, 1, 1, 1, 1, 1, 1, 1, 0, 0, 0] (bd Tryd.f52)), inR := false, pat := P32_1, hs := [.d .str, .d (.int .i64), .n, .n, .d (.int .i64), .d (.sl .str), .n], need := 4, run := fun ρ k v K => L32_0_0 (fun (z0 : List UInt8) (z1 : Int) (z2 : List (List UInt8)) => K (.exit 0) (fillH P32_0 [.d .str, .d .str, .d (.int .i64), .d (.int .i64), .n, .n, .d (.int .i64), .d (.sl .str), .n] (z0, ([47] : List UInt8), (0 : Int), v.2.1, v.2.2.1, v.2.2.2.1, z1, z2, v.2.2.2.2.2.2.1, ()))) k v.2.1 v.2.2.1 v.2.2.2.1 v.2.2.2.2.2.2.1 k v.1 v.2.2.2.2.1 v.2.2.2.2.2.1 }
noncomputable def lp32 : List (Nat × Nat × LE) := [(52, 11, en32_0)]
noncomputable def cp32s : List (Nat × CP) := [(78, cCount), (90, cIndexByte)]
noncomputable def dr32 : List (Nat × List Nat) := []
noncomputable def tb32 : Tb := mkT lp32 cp32s
noncomputable def e32 : Env := mkE tys gl fns dr32 [(52, [(11, [0, 1, 2, 3, 8, 9, 10])])] cp32s
theorem st32_0_0 {ρ : Type} (d k n : Nat) (K : Ex → St → Option ρ) (t0 : List UInt8) (t3 : Int) (t9v : Nat) (t9n : Nat) (t10 : Int) (h0r : List (List UInt8)) (h0v : Nat) : evLoop (en32_0.F tb32 e32 52 k (d + en32_0.need)) (en32_0.gc e32 52) (n + 1) (fillH P32_1 [.d .str, .d (.int .i64), .n, .n, .d (.int .i64), .d (.sl .str), .n] (t0, t3, t9v, t9n, t10, h0r, h0v, ())) (en32_0.KX e32 52 K) =
    T32_0_0 k (fun (t0' : List UInt8) (t10' : Int) (h0r' : List (List UInt8)) => evLoop (en32_0.F tb32 e32 52 k (d + en32_0.need)) (en32_0.gc e32 52) n (fillH P32_1 [.d .str, .d (.int .i64), .n, .n, .d (.int .i64), .d (.sl .str), .n] (t0', t3, t9v, t9n, t10', h0r', h0v, ())) (en32_0.KX e32 52 K)) (fun (z0 : List UInt8) (z1 : Int) (z2 : List (List UInt8)) => K (.exit 0) (fillH P32_0 [.d .str, .d .str, .d (.int .i64), .d (.int .i64), .n, .n, .d (.int .i64), .d (.sl .str), .n] (z0, ([47] : List UInt8), (0 : Int), t3, t9v, t9n, z1, z2, h0v, ()))) t3 t9v t9n h0v t0 t10 h0r := by kernel_rfl
theorem go32_0_0 {ρ : Type} (d k : Nat) (K : Ex → St → Option ρ) (t3 : Int) (t9v : Nat) (t9n : Nat) (h0v : Nat) : ∀ (n : Nat) (t0 : List UInt8) (t10 : Int) (h0r : List (List UInt8)), evLoop (en32_0.F tb32 e32 52 k (d + en32_0.need)) (en32_0.gc e32 52) n (fillH P32_1 [.d .str, .d (.int .i64), .n, .n, .d (.int .i64), .d (.sl .str), .n] (t0, t3, t9v, t9n, t10, h0r, h0v, ())) (en32_0.KX e32 52 K) = L32_0_0 (fun (z0 : List UInt8) (z1 : Int) (z2 : List (List UInt8)) => K (.exit 0) (fillH P32_0 [.d .str, .d .str, .d (.int .i64), .d (.int .i64), .n, .n, .d (.int .i64), .d (.sl .str), .n] (z0, ([47] : List UInt8), (0 : Int), t3, t9v, t9n, z1, z2, h0v, ()))) k t3 t9v t9n h0v n t0 t10 h0r := by
  intro n
  induction n with
  | zero => intros; rfl
  | succ n ih =>
    intro t0 t10 h0r
    rw [st32_0_0 d k n K t0 t3 t9v t9n t10 h0r h0v]
    simp only [ih]
    rfl
theorem ok32_0 (k : Nat) : en32_0.Ok tb32 e32 k 52 := fun ρ d v K => (go32_0_0 d k K v.2.1 v.2.2.1 v.2.2.2.1 v.2.2.2.2.2.2.1 k v.1 v.2.2.2.2.1 v.2.2.2.2.2.1).symm
noncomputable def fn32 (k : Nat) (x0 : List UInt8) : Option (DenL [(.sl .str)]) :=
  if (0 ≤ (if (IntKind.wrap .i64 (((x0).length : Int) + (1 : Int))) < (IntKind.wrap .i64 (((Lib.countByte x0 ((47 : Int)).toNat.toUInt8 : Nat) : Int) + (1 : Int))) then (IntKind.wrap .i64 (((x0).length : Int) + (1 : Int))) else (IntKind.wrap .i64 (((Lib.countByte x0 ((47 : Int)).toNat.toUInt8 : Nat) : Int) + (1 : Int)))) ∧ (if (IntKind.wrap .i64 (((x0).length : Int) + (1 : Int))) < (IntKind.wrap .i64 (((Lib.countByte x0 ((47 : Int)).toNat.toUInt8 : Nat) : Int) + (1 : Int))) then (IntKind.wrap .i64 (((x0).length : Int) + (1 : Int))) else (IntKind.wrap .i64 (((Lib.countByte x0 ((47 : Int)).toNat.toUInt8 : Nat) : Int) + (1 : Int)))) ≤ (if (IntKind.wrap .i64 (((x0).length : Int) + (1 : Int))) < (IntKind.wrap .i64 (((Lib.countByte x0 ((47 : Int)).toNat.toUInt8 : Nat) : Int) + (1 : Int))) then (IntKind.wrap .i64 (((x0).length : Int) + (1 : Int))) else (IntKind.wrap .i64 (((Lib.countByte x0 ((47 : Int)).toNat.toUInt8 : Nat) : Int) + (1 : Int)))) ∧ (if (IntKind.wrap .i64 (((x0).length : Int) + (1 : Int))) < (IntKind.wrap .i64 (((Lib.countByte x0 ((47 : Int)).toNat.toUInt8 : Nat) : Int) + (1 : Int))) then (IntKind.wrap .i64 (((x0).length : Int) + (1 : Int))) else (IntKind.wrap .i64 (((Lib.countByte x0 ((47 : Int)).toNat.toUInt8 : Nat) : Int) + (1 : Int)))) * 16 ≤ 140737488355328 ∧ 0 < 1 ∧ 0 < 16) then (
    L32_0_0 (fun (y1 : List UInt8) (y2 : Int) (y3 : List (List UInt8)) =>
      if (inR y2 ((if (IntKind.wrap .i64 (((x0).length : Int) + (1 : Int))) < (IntKind.wrap .i64 (((Lib.countByte x0 ((47 : Int)).toNat.toUInt8 : Nat) : Int) + (1 : Int))) then (IntKind.wrap .i64 (((x0).length : Int) + (1 : Int))) else (IntKind.wrap .i64 (((Lib.countByte x0 ((47 : Int)).toNat.toUInt8 : Nat) : Int) + (1 : Int))))).toNat) then (
        if (0 ≤ (0 : Int) ∧ (0 : Int) ≤ (IntKind.wrap .i64 (y2 + (1 : Int))) ∧ (IntKind.wrap .i64 (y2 + (1 : Int))) ≤ (((if (IntKind.wrap .i64 (((x0).length : Int) + (1 : Int))) < (IntKind.wrap .i64 (((Lib.countByte x0 ((47 : Int)).toNat.toUInt8 : Nat) : Int) + (1 : Int))) then (IntKind.wrap .i64 (((x0).length : Int) + (1 : Int))) else (IntKind.wrap .i64 (((Lib.countByte x0 ((47 : Int)).toNat.toUInt8 : Nat) : Int) + (1 : Int))))).toNat : Int)) then (
          some ((List.take ((IntKind.wrap .i64 (y2 + (1 : Int)))).toNat (List.drop 0 (List.set y3 (0 + (y2).toNat) y1))), ())) else none) else none) k (IntKind.wrap .i64 ((if (IntKind.wrap .i64 (((x0).length : Int) + (1 : Int))) < (IntKind.wrap .i64 (((Lib.countByte x0 ((47 : Int)).toNat.toUInt8 : Nat) : Int) + (1 : Int))) then (IntKind.wrap .i64 (((x0).length : Int) + (1 : Int))) else (IntKind.wrap .i64 (((Lib.countByte x0 ((47 : Int)).toNat.toUInt8 : Nat) : Int) + (1 : Int)))) - (1 : Int))) 0 (((if (IntKind.wrap .i64 (((x0).length : Int) + (1 : Int))) < (IntKind.wrap .i64 (((Lib.countByte x0 ((47 : Int)).toNat.toUInt8 : Nat) : Int) + (1 : Int))) then (IntKind.wrap .i64 (((x0).length : Int) + (1 : Int))) else (IntKind.wrap .i64 (((Lib.countByte x0 ((47 : Int)).toNat.toUInt8 : Nat) : Int) + (1 : Int))))).toNat) 0 k x0 (0 : Int) (List.replicate ((if (IntKind.wrap .i64 (((x0).length : Int) + (1 : Int))) < (IntKind.wrap .i64 (((Lib.countByte x0 ((47 : Int)).toNat.toUInt8 : Nat) : Int) + (1 : Int))) then (IntKind.wrap .i64 (((x0).length : Int) + (1 : Int))) else (IntKind.wrap .i64 (((Lib.countByte x0 ((47 : Int)).toNat.toUInt8 : Nat) : Int) + (1 : Int))))).toNat ([] : List UInt8))) else none
theorem ev32 (k : Nat) (x0 : List UInt8) : (orcL tb32 e32 k 6).call 32 (ofRes [.str, .str] (x0, ([47] : List UInt8), ())) [] (KD [(.sl .str)]) = fn32 k x0 := by kernel_rfl
theorem con32 {k : Nat} {pre : DenL [.str, .str] → Bool} {spec : DenL [.str, .str] → DenL [(.sl .str)]} (hC : ∀ p ∈ cp32s, CpOk Tryd.prog gl p.1 p.2) (hp : ∀ xs, pre xs = true → xs.2.1 = ([47] : List UInt8) ∧ fn32 k xs.1 = some (spec xs)) : CpOk Tryd.prog gl 32 { args := [.str, .str], res := [(.sl .str)], pre, spec } :=
  con_of (lps := lp32) (drl := dr32) (kpl := [(52, [(11, [0, 1, 2, 3, 8, 9, 10])])]) (k := k) seatOk hC (by
    unfold lp32
    simp only [List.forall_mem_cons]
    exact ⟨ok32_0 k, fun _ h => by cases h⟩) (fun p h => by cases h) (by kernel_rfl) 6 (by
    intro ⟨x0, x1, _⟩ hx
    obtain ⟨h1, h⟩ := hp _ hx
    simp only at h1
    subst h1
    exact (ev32 k x0).trans h)
end Go.Proofs.YtholnbknimfbhaaDoor

set_option linter.unusedVariables false
set_option linter.unusedSimpArgs false
open Go.Proofs
namespace Go.Proofs.YtholnbknimfbhaaDoor
open Go Go.Fy Go.RowKit

theorem b47 : ((47 : Int)).toNat.toUInt8 = (47 : UInt8) := by decide

theorem L32_ok {ρ : Type} (K0 : (List UInt8) → Int → (List (List UInt8)) → Option ρ) (k v : Nat) : ∀ (fuel : Nat) (t0 : List UInt8) (i n : Nat) (a : List (List UInt8)), t0.count 47 < fuel → i + t0.count 47 + 1 = n → a.length = n → n < 1000000000 → t0.length < 1000000000 →
    ∃ last a', L32_0_0 K0 k ((n : Int) - 1) v n v fuel t0 (i : Int) a = K0 last ((n : Int) - 1) a' ∧ a'.length = n ∧ (a'.take (n - 1)) ++ [last] = a.take i ++ spl 47 t0
  | 0, t0, i, n, a, h, _, _, _, _ => by omega
  | fuel + 1, t0, i, n, a, h, hn, ha, hb, hl => by
    have rec_ : ∀ (m : Nat), m < t0.length → t0.count 47 = (t0.drop (m + 1)).count 47 + 1 → spl 47 t0 = t0.take m :: spl 47 (t0.drop (m + 1)) →
        ∃ last a', L32_0_0 K0 k ((n : Int) - 1) v n v fuel (t0.drop (m + 1)) ((i : Int) + 1) (a.set i (t0.take m)) = K0 last ((n : Int) - 1) a' ∧ a'.length = n ∧ (a'.take (n - 1)) ++ [last] = a.take i ++ spl 47 t0 := by
      intro m hm hc hs
      obtain ⟨last, a', h1, h2, h3⟩ := L32_ok K0 k v fuel (t0.drop (m + 1)) (i + 1) n (a.set i (t0.take m)) (by omega) (by omega) (by simpa using ha) hb (by simp; omega)
      refine ⟨last, a', by simpa using h1, h2, ?_⟩
      rw [h3, hs, List.take_add_one, List.take_set_of_le (Nat.le_refl i)]
      have : (a.set i (t0.take m))[i]? = some (t0.take m) := List.getElem?_set_self (by omega)
      rw [this]
      simp
    rw [L32_0_0]
    unfold T32_0_0
    rcases index_cases 47 t0 with ⟨h1, h2, h3⟩ | ⟨m, h1, h2, h3, h4, h5, h6⟩
    · have e : ¬ ((i : Int) < (n : Int) - 1) := by omega
      have e2 : (i : Int) = (n : Int) - 1 := by omega
      simp only [e, decide_false, cond_false]
      refine ⟨t0, a, by rw [e2], ha, ?_⟩
      rw [h3, show n - 1 = i by omega]
    · have e : (i : Int) < (n : Int) - 1 := by omega
      have e0 : inR (i : Int) n := ⟨by omega, by omega⟩
      have w1 : IntKind.wrap .i64 ((i : Int) + 1) = (i : Int) + 1 := wrap_i64 (by omega) (by omega)
      have w2 : IntKind.wrap .i64 ((m : Int) + 1) = ((m + 1 : Nat) : Int) := wrap_i64 (by omega) (by omega)
      have w3 : IntKind.wrap .i64 ((m : Int) + 0) = (m : Int) := wrap_i64 (by omega) (by omega)
      simp only [e, decide_true, cond_true, b47, h1, tsh, e0, if_true, and_true, true_and, w1, w2, w3, Int.le_refl, Int.toNat_natCast, Nat.zero_add, cutL_all, cutL_zero]
      cases hq : (([47] : List UInt8) == t0) with
      | true =>
        have hq : t0 = [47] := (by simpa using hq : [47] = t0).symm
        subst hq
        have hm : m = 0 := by simp at h2; omega
        subst hm
        simp only [cond_true]
        rw [if_pos (by simp), if_pos (by simp)]
        exact rec_ 0 h2 h3 h4
      | false =>
        have e3 : ¬ ((m : Int) < 0) := by omega
        simp only [cond_false, e3, decide_false]
        rw [if_pos (by omega), if_pos (by omega)]
        exact rec_ m h2 h3 h4

theorem fn32_ok (k : Nat) (x0 : List UInt8) (hk : x0.length < k) (hl : x0.length < 100000000) : fn32 k x0 = some (spl 47 x0, ()) := by
  have hc : x0.count 47 ≤ x0.length := List.count_le_length
  have w1 : IntKind.wrap .i64 ((x0.length : Int) + 1) = (x0.length : Int) + 1 := wrap_i64 (by omega) (by omega)
  have w2 : IntKind.wrap .i64 (((x0.count 47 : Nat) : Int) + 1) = ((x0.count 47 + 1 : Nat) : Int) := wrap_i64 (by omega) (by omega)
  have e : (if (x0.length : Int) + 1 < ((x0.count 47 + 1 : Nat) : Int) then (x0.length : Int) + 1 else ((x0.count 47 + 1 : Nat) : Int)) = ((x0.count 47 + 1 : Nat) : Int) := if_neg (by omega)
  unfold fn32
  simp only [b47, Lib.countByte, w1, w2, e, Int.toNat_natCast]
  have w3 : IntKind.wrap .i64 (((x0.count 47 + 1 : Nat) : Int) - 1) = ((x0.count 47 + 1 : Nat) : Int) - 1 := wrap_i64 (by omega) (by omega)
  rw [w3, if_pos ⟨by omega, by omega, by omega, by omega, by omega⟩]
  obtain ⟨last, a', h1, h2, h3⟩ := L32_ok (fun (y1 : List UInt8) (y2 : Int) (y3 : List (List UInt8)) =>
      if (inR y2 (x0.count 47 + 1)) then (
        if (0 ≤ (0 : Int) ∧ (0 : Int) ≤ (IntKind.wrap .i64 (y2 + (1 : Int))) ∧ (IntKind.wrap .i64 (y2 + (1 : Int))) ≤ ((x0.count 47 + 1 : Nat) : Int)) then (
          (some ((List.take ((IntKind.wrap .i64 (y2 + (1 : Int)))).toNat (List.drop 0 (List.set y3 (0 + (y2).toNat) y1))), ()) : Option (DenL [(.sl .str)]))) else none) else none) k 0 k x0 0 (x0.count 47 + 1) (List.replicate (x0.count 47 + 1) []) (by omega) (by omega) (by simp) (by omega) (by omega)
  refine Eq.trans h1 ?_
  have w4 : IntKind.wrap .i64 (((x0.count 47 + 1 : Nat) : Int) - 1 + 1) = ((x0.count 47 + 1 : Nat) : Int) := by
    rw [wrap_i64 (by omega) (by omega)]; omega
  have e5 : (((x0.count 47 + 1 : Nat) : Int) - 1).toNat = x0.count 47 := by omega
  rw [if_pos ⟨by omega, by omega⟩]
  simp only [w4, e5, Int.toNat_natCast, Nat.zero_add, List.drop_zero]
  rw [if_pos ⟨by omega, by omega, by omega⟩]
  simp only [List.take_zero, List.nil_append] at h3
  rw [← h3, List.take_add_one, List.take_set_of_le (Nat.le_refl _)]
  have : (a'.set (x0.count 47) last)[x0.count 47]? = some last := List.getElem?_set_self (by omega)
  rw [this]
  simp

/-- strings.Split at "/". -/
noncomputable def cSplit : CP := { args := [.str, .str], res := [.sl .str], pre := fun xs => decide (xs.2.1 = [47]) && decide (xs.1.length < 100000000), spec := fun xs => (spl 47 xs.1, ()) }
theorem splitOk : CpOk Tryd.prog gl 32 cSplit := con32 (k := 100000000) (by
    unfold cp32s
    simp only [List.forall_mem_cons]
    exact ⟨countOk, indexByteOk, fun _ h => by cases h⟩) (fun xs h => by
    simp only [Bool.and_eq_true, decide_eq_true_eq] at h
    exact ⟨h.1, fn32_ok _ _ h.2 h.2⟩)
end Go.Proofs.YtholnbknimfbhaaDoor

set_option linter.unusedVariables false
set_option linter.unusedSimpArgs false
set_option maxRecDepth 100000
open Go.Proofs
namespace Go.Proofs.YtholnbknimfbhaaDoor
open Go Go.Fy Go.RowKit

noncomputable def P67_0 : SP := { ts := [.un, .un, .un, .un, (.hole (.int .i64)), .un, .un, .un, .un, .un, .un, .un, .un, .un, .un, .un, .un, .un, .un, .un, .un, .un, .un, .un, .un, .un, .un, .un, .un, .un, .un, .un, .un, .un, .un, .un, .un, .un, .un, .un, .un, .un, .un, .un, .un, .un, .un, .un, .un, .un, .un, .un, .un, .un, .un, .un, .un, .un, .un, .un, .un, .un, .un, .un, .un, .un, .un, .un, .un, .un, .un, .un, .un, .un, .un, .un, .un, .un, .un, .un, .un, .un, .un, .un, .un, .un, .un, .un, .un, .un, .un, .un, .un, .un, .un, .un, .un, .un, .un, .un, .un, .un, .un, .un, .un, .un, .un, .un, .un, .un, .un, .un, .un, .un, .un, .un, .un, .un, .un, .un, .un, .un, .un, .un, .un, .un, .un, .un, .un, .un, .un, .un, .un, .un, .un, .un, .un, .un, .un, .un, .un, .un, .un, .un, .un, .un, .un, .un, .un, .un, .un, .un, .un, .un, .un, .un, .un, .un, .un, .un, .un, .un, .un, .un, .un, .un, .un, .un, .un, .un, .un, .un, .un, .un, .un, (.it 0), .un, .un, .un, .un, .un, .un, .un, .un, .un, .un, .un], h := [(.iter .h)], df := [] }
noncomputable def P67_1 : SP := { ts := [.un, .un, .un, .un, (.ci .i64 (0)), .un, .un, .un, .un, .un, .un, .un, .un, .un, .un, .un, .un, .un, .un, .un, .un, .un, .un, .un, .un, .un, .un, .un, .un, .un, .un, .un, .un, .un, .un, .un, .un, .un, .un, .un, .un, .un, .un, .un, .un, .un, .un, .un, .un, .un, .un, .un, .un, .un, .un, .un, .un, .un, .un, .un, .un, .un, .un, .un, .un, .un, .un, .un, .un, .un, .un, .un, .un, .un, .un, .un, .un, .un, .un, .un, .un, .un, .un, .un, .un, .un, .un, .un, .un, .un, .un, .un, .un, .un, .un, .un, .un, .un, .un, .un, .un, .un, .un, .un, .un, .un, .un, .un, .un, .un, .un, .un, .un, .un, .un, .un, .un, .un, .un, .un, .un, .un, .un, .un, .un, .un, .un, .un, .un, .un, .un, .un, .un, .un, .un, .un, .un, .un, .un, .un, .un, .un, .un, .un, .un, .un, .un, .un, .un, .un, .un, .un, .un, .un, .un, .un, .un, .un, .un, .un, .un, .un, .un, .un, .un, .un, .un, .un, .un, .un, .un, .un, .un, .un, .un, (.it 0), .un, .un, .un, .un, .un, .un, .un, .un, .un, .un, .un], h := [(.iter .h)], df := [] }
noncomputable def P67_2 : SP := { ts := [(.hole .str), .un, .un, .un, (.hole (.int .i64)), .un, .un, (.hole .str), (.hole (.int .i64)), (.hole (.int .i64)), .un, .un, (.hole (.int .i64)), .un, .un, .un, .un, .un, .un, .un, .un, .un, .un, .un, .un, .un, .un, .un, .un, .un, .un, .un, .un, .un, .un, .un, .un, .un, .un, .un, .un, .un, .un, .un, .un, .un, .un, .un, .un, .un, .un, .un, .un, .un, .un, .un, .un, .un, .un, .un, .un, .un, .un, .un, .un, .un, .un, .un, .un, .un, .un, .un, .un, .un, .un, .un, .un, .un, .un, .un, .un, .un, .un, .un, .un, .un, .un, .un, .un, .un, .un, .un, .un, .un, .un, .un, .un, .un, .un, .un, .un, .un, .un, .un, .un, .un, .un, .un, .un, .un, .un, .un, .un, .un, .un, .un, .un, .un, .un, .un, .un, .un, .un, .un, .un, .un, .un, .un, .un, .un, .un, .un, .un, .un, .un, .un, .un, .un, .un, .un, .un, .un, .un, .un, .un, .un, .un, .un, .un, .un, .un, .un, .un, .un, .un, .un, .un, .un, .un, .un, .un, .un, .un, .un, .un, .un, .un, .un, .un, .un, .un, .un, .un, .un, .un, .un, .un, .un, .un, .un, .un, .un, .un, .un, .un, .un, .un], h := [], df := [] }
noncomputable def P67_3 : SP := { ts := [(.cs [0, 47]), .un, .un, .un, (.ci .i64 (0)), .un, .un, (.hole .str), (.hole (.int .i64)), (.hole (.int .i64)), .un, .un, (.hole (.int .i64)), .un, .un, .un, .un, .un, .un, .un, .un, .un, .un, .un, .un, .un, .un, .un, .un, .un, .un, .un, .un, .un, .un, .un, .un, .un, .un, .un, .un, .un, .un, .un, .un, .un, .un, .un, .un, .un, .un, .un, .un, .un, .un, .un, .un, .un, .un, .un, .un, .un, .un, .un, .un, .un, .un, .un, .un, .un, .un, .un, .un, .un, .un, .un, .un, .un, .un, .un, .un, .un, .un, .un, .un, .un, .un, .un, .un, .un, .un, .un, .un, .un, .un, .un, .un, .un, .un, .un, .un, .un, .un, .un, .un, .un, .un, .un, .un, .un, .un, .un, .un, .un, .un, .un, .un, .un, .un, .un, .un, .un, .un, .un, .un, .un, .un, .un, .un, .un, .un, .un, .un, .un, .un, .un, .un, .un, .un, .un, .un, .un, .un, .un, .un, .un, .un, .un, .un, .un, .un, .un, .un, .un, .un, .un, .un, .un, .un, .un, .un, .un, .un, .un, .un, .un, .un, .un, .un, .un, .un, .un, .un, .un, .un, .un, .un, .un, .un, .un, .un, .un, .un, .un, .un, .un, .un], h := [], df := [] }
noncomputable def P67_4 : SP := { ts := [(.hole .str), .un, .un, .un, (.hole (.int .i64)), .un, .un, (.hole .str), (.hole (.int .i64)), (.hole (.int .i64)), .un, .un, .un, .un, .un, .un, .un, .un, .un, .un, .un, .un, .un, .un, .un, .un, .un, .un, .un, .un, .un, .un, .un, .un, .un, .un, .un, .un, .un, .un, .un, .un, .un, .un, .un, .un, .un, .un, .un, .un, .un, .un, .un, .un, .un, .un, .un, .un, .un, .un, .un, .un, .un, .un, .un, .un, .un, .un, .un, .un, .un, .un, .un, .un, .un, .un, .un, .un, .un, .un, .un, .un, .un, .un, .un, .un, .un, .un, .un, .un, .un, .un, .un, .un, .un, .un, .un, .un, .un, .un, .un, .un, .un, .un, .un, .un, .un, .un, .un, .un, .un, .un, .un, .un, .un, .un, .un, .un, .un, .un, .un, .un, .un, .un, .un, .un, .un, .un, .un, .un, .un, .un, .un, .un, .un, .un, .un, .un, .un, .un, .un, .un, .un, .un, .un, .un, .un, .un, .un, .un, .un, .un, .un, .un, .un, .un, .un, .un, .un, .un, .un, .un, .un, .un, .un, .un, .un, .un, .un, .un, .un, .un, .un, .un, .un, .un, .un, .un, .un, .un, .un, .un, .un, .un, .un, .un, .un], h := [], df := [] }
noncomputable def P67_5 : SP := { ts := [(.cs [0, 47]), .un, .un, .un, (.ci .i64 (0)), .un, .un, (.hole .str), (.hole (.int .i64)), (.hole (.int .i64)), .un, .un, .un, .un, .un, .un, .un, .un, .un, .un, .un, .un, .un, .un, .un, .un, .un, .un, .un, .un, .un, .un, .un, .un, .un, .un, .un, .un, .un, .un, .un, .un, .un, .un, .un, .un, .un, .un, .un, .un, .un, .un, .un, .un, .un, .un, .un, .un, .un, .un, .un, .un, .un, .un, .un, .un, .un, .un, .un, .un, .un, .un, .un, .un, .un, .un, .un, .un, .un, .un, .un, .un, .un, .un, .un, .un, .un, .un, .un, .un, .un, .un, .un, .un, .un, .un, .un, .un, .un, .un, .un, .un, .un, .un, .un, .un, .un, .un, .un, .un, .un, .un, .un, .un, .un, .un, .un, .un, .un, .un, .un, .un, .un, .un, .un, .un, .un, .un, .un, .un, .un, .un, .un, .un, .un, .un, .un, .un, .un, .un, .un, .un, .un, .un, .un, .un, .un, .un, .un, .un, .un, .un, .un, .un, .un, .un, .un, .un, .un, .un, .un, .un, .un, .un, .un, .un, .un, .un, .un, .un, .un, .un, .un, .un, .un, .un, .un, .un, .un, .un, .un, .un, .un, .un, .un, .un, .un], h := [], df := [] }
noncomputable def T67_0_0 {ρ : Type} (k : Nat) (N0 : Nat → Option ρ) (K0 : Int → Nat → Option ρ) (K1 : Nat → Option ρ) (h0s : List UInt8) (h0p : Nat) : Option ρ :=
  if (h0p < (h0s).length) then (
    bif (((decL h0s h0p).1 : Int) == (65533 : Int)) then (
      K0 (h0p : Int) (h0p + (decL h0s h0p).2))
    else (
      N0 (h0p + (decL h0s h0p).2)))
  else (
    K1 h0p)
noncomputable def L67_0_0 {ρ : Type} (K0 : Int → Nat → Option ρ) (K1 : Nat → Option ρ) (k : Nat) (h0s : List UInt8) : Nat → Nat → Option ρ
  | 0, _ => none
  | n + 1, h0p => T67_0_0 k (L67_0_0 K0 K1 k h0s n) K0 K1 h0s h0p
noncomputable def en67_0 : LE := { code := (subC [1, 0, 1, 1, 1, 0, 0, 1, 0, 0] (bd Tryd.f67)), inR := false, pat := P67_1, hs := [.d .str, .n], need := 0, run := fun ρ k v K => L67_0_0 (fun (z0 : Int) (z1 : Nat) => K .ret (fillH P67_0 [.d (.int .i64), .d .str, .n] (z0, v.1, z1, ()))) (fun (z0 : Nat) => K (.exit 9) (fillH P67_0 [.d (.int .i64), .d .str, .n] ((0 : Int), v.1, z0, ()))) k v.1 k v.2.1 }
noncomputable def T67_2_0 {ρ : Type} (k : Nat) (N0 : Int → Option ρ) (K0 : Int → Option ρ) (K1 : Int → Option ρ) (t7 : List UInt8) (t8 : Int) (t9 : Int) (t12 : Int) : Option ρ :=
  bif (decide (t12 < ((t7).length : Int))) then (
    if (inR (IntKind.wrap .i64 (t9 - t12)) 2) then (
      if (inR (IntKind.wrap .i64 (t8 - t12)) (t7).length) then (
        bif ((byteAt ([0, 47] : List UInt8) ((IntKind.wrap .i64 (t9 - t12))).toNat) != (byteAt t7 ((IntKind.wrap .i64 (t8 - t12))).toNat)) then (
          K0 t12)
        else (
          N0 (IntKind.wrap .i64 (t12 + (1 : Int))))) else none) else none)
  else (
    K1 t12)
noncomputable def L67_2_0 {ρ : Type} (K0 : Int → Option ρ) (K1 : Int → Option ρ) (k : Nat) (t7 : List UInt8) (t8 : Int) (t9 : Int) : Nat → Int → Option ρ
  | 0, _ => none
  | n + 1, t12 => T67_2_0 k (L67_2_0 K0 K1 k t7 t8 t9 n) K0 K1 t7 t8 t9 t12
noncomputable def en67_2 : LE := { code := (subC [1, 0, 1, 1, 1, 1, 1, 1, 0, 1, 1, 1, 1, 0, 0, 0, 1, 0, 0, 1, 0, 1, 0, 0] (bd Tryd.f67)), inR := false, pat := P67_3, hs := [.d .str, .d (.int .i64), .d (.int .i64), .d (.int .i64)], need := 0, run := fun ρ k v K => L67_2_0 (fun (z0 : Int) => K (.goto 0) (fillH P67_2 [.d .str, .d (.int .i64), .d .str, .d (.int .i64), .d (.int .i64), .d (.int .i64)] (([0, 47] : List UInt8), (0 : Int), v.1, v.2.1, v.2.2.1, z0, ()))) (fun (z0 : Int) => K (.exit 3) (fillH P67_2 [.d .str, .d (.int .i64), .d .str, .d (.int .i64), .d (.int .i64), .d (.int .i64)] (([0, 47] : List UInt8), (0 : Int), v.1, v.2.1, v.2.2.1, z0, ()))) k v.1 v.2.1 v.2.2.1 k v.2.2.2.1 }
noncomputable def T67_1_0 {ρ : Type} (k : Nat)  (K0 : Int → Int → Option ρ) (K1 : Unit → Option ρ) (t7 : List UInt8) (t8 : Int) (t9 : Int) : Option ρ :=
  bif (decide (t9 < (2 : Int))) then (
    if (inR t9 2) then (
      if (inR t8 (t7).length) then (
        bif ((byteAt ([0, 47] : List UInt8) (t9).toNat) != (byteAt t7 (t8).toNat)) then (
          if (0 ≤ (IntKind.wrap .i64 (t9 + (1 : Int))) ∧ (IntKind.wrap .i64 (t9 + (1 : Int))) ≤ (2 : Int) ∧ (2 : Int) ≤ (2 : Int)) then (
            if (inR t8 (t7).length) then (
              bif (decide ((Lib.indexByte (cutL ([0, 47] : List UInt8) ((IntKind.wrap .i64 (t9 + (1 : Int)))).toNat 2) ((byteAt t7 (t8).toNat)).toNat.toUInt8) < (0 : Int))) then (
                K0 (-1 : Int) t9)
              else (
                L67_2_0 (fun (y4 : Int) =>
                  none) (fun (y5 : Int) =>
                  K0 (IntKind.wrap .i64 ((IntKind.wrap .i64 (t9 + (IntKind.wrap .i64 ((Lib.indexByte (cutL ([0, 47] : List UInt8) ((IntKind.wrap .i64 (t9 + (1 : Int)))).toNat 2) ((byteAt t7 (t8).toNat)).toNat.toUInt8) + (1 : Int))))) - t8)) (IntKind.wrap .i64 (t9 + (IntKind.wrap .i64 ((Lib.indexByte (cutL ([0, 47] : List UInt8) ((IntKind.wrap .i64 (t9 + (1 : Int)))).toNat 2) ((byteAt t7 (t8).toNat)).toNat.toUInt8) + (1 : Int)))))) k t7 t8 (IntKind.wrap .i64 (t9 + (IntKind.wrap .i64 ((Lib.indexByte (cutL ([0, 47] : List UInt8) ((IntKind.wrap .i64 (t9 + (1 : Int)))).toNat 2) ((byteAt t7 (t8).toNat)).toNat.toUInt8) + (1 : Int))))) k (1 : Int))) else none) else none)
        else (
          L67_2_0 (fun (y6 : Int) =>
            none) (fun (y7 : Int) =>
            K0 (IntKind.wrap .i64 (t9 - t8)) t9) k t7 t8 t9 k (1 : Int))) else none) else none)
  else (
    K1 ())
noncomputable def L67_1_0 {ρ : Type} (K0 : Int → Int → Option ρ) (K1 : Unit → Option ρ) (k : Nat) (t7 : List UInt8) (t8 : Int) (t9 : Int) : Nat → Option ρ
  | 0 => none
  | n + 1 => T67_1_0 k  K0 K1 t7 t8 t9 
noncomputable def en67_1 : LE := { code := (subC [1, 0, 1, 1, 1, 1, 1, 1, 0, 1, 1, 1, 1, 0, 0, 0] (bd Tryd.f67)), inR := false, pat := P67_5, hs := [.d .str, .d (.int .i64), .d (.int .i64)], need := 3, run := fun ρ k v K => L67_1_0 (fun (z0 : Int) (z1 : Int) => K .ret (fillH P67_4 [.d .str, .d (.int .i64), .d .str, .d (.int .i64), .d (.int .i64)] (([0, 47] : List UInt8), z0, v.1, v.2.1, z1, ()))) (fun (_ : Unit) => K (.exit 1) (fillH P67_4 [.d .str, .d (.int .i64), .d .str, .d (.int .i64), .d (.int .i64)] (([0, 47] : List UInt8), (0 : Int), v.1, v.2.1, v.2.2.1, ()))) k v.1 v.2.1 v.2.2.1 k  }
noncomputable def lp67 : List (Nat × Nat × LE) := [(67, 38, en67_0), (67, 12, en67_2), (67, 5, en67_1)]
noncomputable def cp67s : List (Nat × CP) := [(90, cIndexByte)]
noncomputable def dr67 : List (Nat × List Nat) := [(67, [6, 7, 14])]
noncomputable def tb67 : Tb := mkT lp67 cp67s
noncomputable def e67 : Env := mkE tys gl fns dr67 [(67, [(5, [0, 4, 7, 8, 9]), (12, [0, 4, 7, 8, 9, 12]), (25, [0, 4, 7, 8, 9, 14, 15]), (29, [0, 4, 7, 8, 9, 14, 15, 16]), (38, [4, 175])])] cp67s
theorem st67_0_0 {ρ : Type} (d k n : Nat) (K : Ex → St → Option ρ) (h0s : List UInt8) (h0p : Nat) : evLoop (en67_0.F tb67 e67 67 k (d + en67_0.need)) (en67_0.gc e67 67) (n + 1) (fillH P67_1 [.d .str, .n] (h0s, h0p, ())) (en67_0.KX e67 67 K) =
    T67_0_0 k (fun (h0p' : Nat) => evLoop (en67_0.F tb67 e67 67 k (d + en67_0.need)) (en67_0.gc e67 67) n (fillH P67_1 [.d .str, .n] (h0s, h0p', ())) (en67_0.KX e67 67 K)) (fun (z0 : Int) (z1 : Nat) => K .ret (fillH P67_0 [.d (.int .i64), .d .str, .n] (z0, h0s, z1, ()))) (fun (z0 : Nat) => K (.exit 9) (fillH P67_0 [.d (.int .i64), .d .str, .n] ((0 : Int), h0s, z0, ()))) h0s h0p := by kernel_rfl
theorem go67_0_0 {ρ : Type} (d k : Nat) (K : Ex → St → Option ρ) (h0s : List UInt8) : ∀ (n : Nat) (h0p : Nat), evLoop (en67_0.F tb67 e67 67 k (d + en67_0.need)) (en67_0.gc e67 67) n (fillH P67_1 [.d .str, .n] (h0s, h0p, ())) (en67_0.KX e67 67 K) = L67_0_0 (fun (z0 : Int) (z1 : Nat) => K .ret (fillH P67_0 [.d (.int .i64), .d .str, .n] (z0, h0s, z1, ()))) (fun (z0 : Nat) => K (.exit 9) (fillH P67_0 [.d (.int .i64), .d .str, .n] ((0 : Int), h0s, z0, ()))) k h0s n h0p := by
  intro n
  induction n with
  | zero => intros; rfl
  | succ n ih =>
    intro h0p
    rw [st67_0_0 d k n K h0s h0p]
    simp only [ih]
    rfl
theorem ok67_0 (k : Nat) : en67_0.Ok tb67 e67 k 67 := fun ρ d v K => (go67_0_0 d k K v.1 k v.2.1).symm
theorem st67_2_0 {ρ : Type} (d k n : Nat) (K : Ex → St → Option ρ) (t7 : List UInt8) (t8 : Int) (t9 : Int) (t12 : Int) : evLoop (en67_2.F tb67 e67 67 k (d + en67_2.need)) (en67_2.gc e67 67) (n + 1) (fillH P67_3 [.d .str, .d (.int .i64), .d (.int .i64), .d (.int .i64)] (t7, t8, t9, t12, ())) (en67_2.KX e67 67 K) =
    T67_2_0 k (fun (t12' : Int) => evLoop (en67_2.F tb67 e67 67 k (d + en67_2.need)) (en67_2.gc e67 67) n (fillH P67_3 [.d .str, .d (.int .i64), .d (.int .i64), .d (.int .i64)] (t7, t8, t9, t12', ())) (en67_2.KX e67 67 K)) (fun (z0 : Int) => K (.goto 0) (fillH P67_2 [.d .str, .d (.int .i64), .d .str, .d (.int .i64), .d (.int .i64), .d (.int .i64)] (([0, 47] : List UInt8), (0 : Int), t7, t8, t9, z0, ()))) (fun (z0 : Int) => K (.exit 3) (fillH P67_2 [.d .str, .d (.int .i64), .d .str, .d (.int .i64), .d (.int .i64), .d (.int .i64)] (([0, 47] : List UInt8), (0 : Int), t7, t8, t9, z0, ()))) t7 t8 t9 t12 := by kernel_rfl
theorem go67_2_0 {ρ : Type} (d k : Nat) (K : Ex → St → Option ρ) (t7 : List UInt8) (t8 : Int) (t9 : Int) : ∀ (n : Nat) (t12 : Int), evLoop (en67_2.F tb67 e67 67 k (d + en67_2.need)) (en67_2.gc e67 67) n (fillH P67_3 [.d .str, .d (.int .i64), .d (.int .i64), .d (.int .i64)] (t7, t8, t9, t12, ())) (en67_2.KX e67 67 K) = L67_2_0 (fun (z0 : Int) => K (.goto 0) (fillH P67_2 [.d .str, .d (.int .i64), .d .str, .d (.int .i64), .d (.int .i64), .d (.int .i64)] (([0, 47] : List UInt8), (0 : Int), t7, t8, t9, z0, ()))) (fun (z0 : Int) => K (.exit 3) (fillH P67_2 [.d .str, .d (.int .i64), .d .str, .d (.int .i64), .d (.int .i64), .d (.int .i64)] (([0, 47] : List UInt8), (0 : Int), t7, t8, t9, z0, ()))) k t7 t8 t9 n t12 := by
  intro n
  induction n with
  | zero => intros; rfl
  | succ n ih =>
    intro t12
    rw [st67_2_0 d k n K t7 t8 t9 t12]
    simp only [ih]
    rfl
theorem ok67_2 (k : Nat) : en67_2.Ok tb67 e67 k 67 := fun ρ d v K => (go67_2_0 d k K v.1 v.2.1 v.2.2.1 k v.2.2.2.1).symm
theorem st67_1_0 {ρ : Type} (d k n : Nat) (K : Ex → St → Option ρ) (t7 : List UInt8) (t8 : Int) (t9 : Int) : evLoop (en67_1.F tb67 e67 67 k (d + en67_1.need)) (en67_1.gc e67 67) (n + 1) (fillH P67_5 [.d .str, .d (.int .i64), .d (.int .i64)] (t7, t8, t9, ())) (en67_1.KX e67 67 K) =
    T67_1_0 k  (fun (z0 : Int) (z1 : Int) => K .ret (fillH P67_4 [.d .str, .d (.int .i64), .d .str, .d (.int .i64), .d (.int .i64)] (([0, 47] : List UInt8), z0, t7, t8, z1, ()))) (fun (_ : Unit) => K (.exit 1) (fillH P67_4 [.d .str, .d (.int .i64), .d .str, .d (.int .i64), .d (.int .i64)] (([0, 47] : List UInt8), (0 : Int), t7, t8, t9, ()))) t7 t8 t9 := by kernel_rfl
theorem go67_1_0 {ρ : Type} (d k : Nat) (K : Ex → St → Option ρ) (t7 : List UInt8) (t8 : Int) (t9 : Int) : ∀ (n : Nat) , evLoop (en67_1.F tb67 e67 67 k (d + en67_1.need)) (en67_1.gc e67 67) n (fillH P67_5 [.d .str, .d (.int .i64), .d (.int .i64)] (t7, t8, t9, ())) (en67_1.KX e67 67 K) = L67_1_0 (fun (z0 : Int) (z1 : Int) => K .ret (fillH P67_4 [.d .str, .d (.int .i64), .d .str, .d (.int .i64), .d (.int .i64)] (([0, 47] : List UInt8), z0, t7, t8, z1, ()))) (fun (_ : Unit) => K (.exit 1) (fillH P67_4 [.d .str, .d (.int .i64), .d .str, .d (.int .i64), .d (.int .i64)] (([0, 47] : List UInt8), (0 : Int), t7, t8, t9, ()))) k t7 t8 t9 n  := by
  intro n
  induction n with
  | zero => rfl
  | succ n ih =>
    rw [st67_1_0 d k n K t7 t8 t9]
    rfl
theorem ok67_1 (k : Nat) : en67_1.Ok tb67 e67 k 67 := fun ρ d v K => (go67_1_0 d k K v.1 v.2.1 v.2.2.1 k ).symm
noncomputable def fn67 (k : Nat) (x1 : Int) : Option (DenL [(.int .i64)]) :=
  bif (decide ((0 : Int) ≤ x1)) then (
    bif (decide (x1 < (128 : Int))) then (
      some ((Lib.indexByte ([0, 47] : List UInt8) ((IntKind.wrap .u8 x1)).toNat.toUInt8), ()))
    else (
      bif (x1 == (65533 : Int)) then (
        L67_0_0 (fun (y1 : Int) (y2 : Nat) =>
          some (y1, ())) (fun (y3 : Nat) =>
          some ((-1 : Int), ())) k ([0, 47] : List UInt8) k 0)
      else (
        bif (decide ((0 : Int) ≤ x1)) then (
          bif (decide (x1 < (55296 : Int))) then (
            L67_1_0 (fun (y8 : Int) (y9 : Int) =>
              some (y8, ())) (fun (_ : Unit) =>
              some ((-1 : Int), ())) k ((Utf8.encode x1).data.toList) (IntKind.wrap .i64 ((((Utf8.encode x1).data.toList).length : Int) - (1 : Int))) (IntKind.wrap .i64 ((((Utf8.encode x1).data.toList).length : Int) - (1 : Int))) k )
          else (
            bif (decide ((57343 : Int) < x1)) then (
              bif (decide (x1 ≤ (1114111 : Int))) then (
                L67_1_0 (fun (y10 : Int) (y11 : Int) =>
                  some (y10, ())) (fun (_ : Unit) =>
                  some ((-1 : Int), ())) k ((Utf8.encode x1).data.toList) (IntKind.wrap .i64 ((((Utf8.encode x1).data.toList).length : Int) - (1 : Int))) (IntKind.wrap .i64 ((((Utf8.encode x1).data.toList).length : Int) - (1 : Int))) k )
              else (
                some ((-1 : Int), ())))
            else (
              some ((-1 : Int), ()))))
        else (
          bif (decide ((57343 : Int) < x1)) then (
            bif (decide (x1 ≤ (1114111 : Int))) then (
              L67_1_0 (fun (y12 : Int) (y13 : Int) =>
                some (y12, ())) (fun (_ : Unit) =>
                some ((-1 : Int), ())) k ((Utf8.encode x1).data.toList) (IntKind.wrap .i64 ((((Utf8.encode x1).data.toList).length : Int) - (1 : Int))) (IntKind.wrap .i64 ((((Utf8.encode x1).data.toList).length : Int) - (1 : Int))) k )
            else (
              some ((-1 : Int), ())))
          else (
            some ((-1 : Int), ()))))))
  else (
    bif (x1 == (65533 : Int)) then (
      L67_0_0 (fun (y14 : Int) (y15 : Nat) =>
        some (y14, ())) (fun (y16 : Nat) =>
        some ((-1 : Int), ())) k ([0, 47] : List UInt8) k 0)
    else (
      bif (decide ((0 : Int) ≤ x1)) then (
        bif (decide (x1 < (55296 : Int))) then (
          L67_1_0 (fun (y17 : Int) (y18 : Int) =>
            some (y17, ())) (fun (_ : Unit) =>
            some ((-1 : Int), ())) k ((Utf8.encode x1).data.toList) (IntKind.wrap .i64 ((((Utf8.encode x1).data.toList).length : Int) - (1 : Int))) (IntKind.wrap .i64 ((((Utf8.encode x1).data.toList).length : Int) - (1 : Int))) k )
        else (
          bif (decide ((57343 : Int) < x1)) then (
            bif (decide (x1 ≤ (1114111 : Int))) then (
              L67_1_0 (fun (y19 : Int) (y20 : Int) =>
                some (y19, ())) (fun (_ : Unit) =>
                some ((-1 : Int), ())) k ((Utf8.encode x1).data.toList) (IntKind.wrap .i64 ((((Utf8.encode x1).data.toList).length : Int) - (1 : Int))) (IntKind.wrap .i64 ((((Utf8.encode x1).data.toList).length : Int) - (1 : Int))) k )
            else (
              some ((-1 : Int), ())))
          else (
            some ((-1 : Int), ()))))
      else (
        bif (decide ((57343 : Int) < x1)) then (
          bif (decide (x1 ≤ (1114111 : Int))) then (
            L67_1_0 (fun (y21 : Int) (y22 : Int) =>
              some (y21, ())) (fun (_ : Unit) =>
              some ((-1 : Int), ())) k ((Utf8.encode x1).data.toList) (IntKind.wrap .i64 ((((Utf8.encode x1).data.toList).length : Int) - (1 : Int))) (IntKind.wrap .i64 ((((Utf8.encode x1).data.toList).length : Int) - (1 : Int))) k )
          else (
            some ((-1 : Int), ())))
        else (
          some ((-1 : Int), ())))))
theorem ev67 (k : Nat) (x1 : Int) : (orcL tb67 e67 k 4).call 67 (ofRes [.str, (.int .i32)] (([0, 47] : List UInt8), x1, ())) [] (KD [(.int .i64)]) = fn67 k x1 := by kernel_rfl
theorem con67 {k : Nat} {pre : DenL [.str, (.int .i32)] → Bool} {spec : DenL [.str, (.int .i32)] → DenL [(.int .i64)]} (hC : ∀ p ∈ cp67s, CpOk Tryd.prog gl p.1 p.2) (hp : ∀ xs, pre xs = true → xs.1 = ([0, 47] : List UInt8) ∧ fn67 k xs.2.1 = some (spec xs)) : CpOk Tryd.prog gl 67 { args := [.str, (.int .i32)], res := [(.int .i64)], pre, spec } :=
  con_of (lps := lp67) (drl := dr67) (kpl := [(67, [(5, [0, 4, 7, 8, 9]), (12, [0, 4, 7, 8, 9, 12]), (25, [0, 4, 7, 8, 9, 14, 15]), (29, [0, 4, 7, 8, 9, 14, 15, 16]), (38, [4, 175])])]) (k := k) seatOk hC (by
    unfold lp67
    simp only [List.forall_mem_cons]
    exact ⟨ok67_0 k, ok67_2 k, ok67_1 k, fun _ h => by cases h⟩) (by
    unfold dr67
    simp only [List.forall_mem_cons]
    exact ⟨fun fn b h1 h2 => by cases h1; cases h2; kernel_rfl, fun _ h => by cases h⟩) (by kernel_rfl) 4 (by
    intro ⟨x0, x1, _⟩ hx
    obtain ⟨h0, h⟩ := hp _ hx
    simp only at h0
    subst h0
    exact (ev67 k x1).trans h)
end Go.Proofs.YtholnbknimfbhaaDoor

set_option linter.unusedVariables false
set_option linter.unusedSimpArgs false
open Go.Proofs
namespace Go.Proofs.YtholnbknimfbhaaDoor
open Go Go.Fy Go.RowKit

def idxRune (r : Int) : Int := if r = 0 then 0 else if r = 47 then 1 else -1

theorem L67_0_ok {ρ : Type} (K0 : Int → Nat → Option ρ) (K1 : Nat → Option ρ) (k m : Nat) : L67_0_0 K0 K1 k [0, 47] (m + 3) 0 = K1 2 := by
  have d0 : decL [0, 47] 0 = (0, 1) := decL_ascii (b := 0) rfl (by decide)
  have d1 : decL [0, 47] 1 = (47, 1) := decL_ascii (b := 47) rfl (by decide)
  simp [L67_0_0, T67_0_0, d0, d1]

theorem L67_1_ok {ρ : Type} (K0 : Int → Int → Option ρ) (K1 : Unit → Option ρ) (k m : Nat) {r : Int} (h : 128 ≤ r) (L : Int) (hL : L = IntKind.wrap .i64 (((Utf8.encode r).data.toList.length : Int) - 1)) :
    L67_1_0 K0 K1 k (Utf8.encode r).data.toList L L (m + 1) = K0 (-1) 1 ∨ L67_1_0 K0 K1 k (Utf8.encode r).data.toList L L (m + 1) = K1 () := by
  rcases enc_cases h with ⟨a, b, e, hb⟩ | ⟨h1, h2⟩
  · left
    have hL1 : L = 1 := by rw [hL, e]; rfl
    subst hL1
    rw [e, L67_1_0]
    unfold T67_1_0
    have e1 : ((byteAt ([0, 47] : List UInt8) (1 : Int).toNat) != (byteAt [a, b] (1 : Int).toNat)) = true := by
      simp [byteAt]
      omega
    have e2 : inR (1 : Int) 2 := ⟨by decide, by decide⟩
    have e3 : IntKind.wrap .i64 2 = 2 := wrap_i64 (by decide) (by decide)
    have e4 : cutL ([0, 47] : List UInt8) 2 2 = [] := rfl
    rw [e1]
    simp [e2, e3, e4, Lib.indexByte]
  · right
    have hL1 : ¬ (L < 2) := by rw [hL, wrap_i64 (by omega) (by omega)]; omega
    rw [L67_1_0]
    unfold T67_1_0
    simp [hL1]

theorem fn67_ok (k : Nat) (x1 : Int) (hk : 3 ≤ k) (h0 : 0 ≤ x1) (h1 : x1 ≤ 1114111) : fn67 k x1 = some (idxRune x1, ()) := by
  unfold fn67
  simp only [h0, h1, decide_true, cond_true]
  by_cases hs : x1 < 128
  · simp only [hs, decide_true, cond_true]
    have e : IntKind.wrap .u8 x1 = x1 := by
      unfold IntKind.wrap
      simp only [IntKind.bits, IntKind.signed]
      have : x1 % 2 ^ 8 = x1 := Int.emod_eq_of_lt h0 (by omega)
      simpa using this
    rw [e]
    obtain ⟨n, rfl⟩ : ∃ n : Nat, x1 = n := ⟨x1.toNat, by omega⟩
    have : ∀ n : Fin 128, some ((Lib.indexByte ([0, 47] : List UInt8) ((n.val : Int)).toNat.toUInt8), ()) = some (idxRune (n.val : Int), ()) := by decide
    exact this ⟨n, by omega⟩
  · have hr : idxRune x1 = -1 := by
      unfold idxRune
      rw [if_neg (by omega), if_neg (by omega)]
    obtain ⟨m, rfl⟩ : ∃ m, k = m + 3 := ⟨k - 3, by omega⟩
    have hw : 128 ≤ x1 := by omega
    have key : ∀ (K : Int → Int → Option (DenL [(.int .i64)])) (K1 : Unit → Option (DenL [(.int .i64)])), K (-1) 1 = some (-1, ()) → K1 () = some (-1, ()) →
        L67_1_0 K K1 (m + 3) (Utf8.encode x1).data.toList (IntKind.wrap .i64 (((Utf8.encode x1).data.toList.length : Int) - 1)) (IntKind.wrap .i64 (((Utf8.encode x1).data.toList.length : Int) - 1)) (m + 3) = some (-1, ()) := by
      intro K K1 e1 e2
      rcases L67_1_ok K K1 (m + 3) (m + 2) hw _ rfl with e | e
      · rw [e, e1]
      · rw [e, e2]
    rw [hr]
    simp only [hs, decide_false, cond_false, L67_0_ok]
    cases hq : (x1 == 65533) with
    | true => rfl
    | false =>
      simp only [cond_false]
      by_cases h2 : x1 < 55296
      · simp only [h2, decide_true, cond_true]
        exact key _ _ rfl rfl
      · simp only [h2, decide_false, cond_false]
        by_cases h3 : 57343 < x1
        · simp only [h3, decide_true, cond_true]
          exact key _ _ rfl rfl
        · simp only [h3, decide_false, cond_false]

noncomputable def cIndexRune : CP := { args := [.str, .int .i32], res := [.int .i64], pre := fun xs => decide (xs.1 = [0, 47]) && (decide (0 ≤ xs.2.1) && decide (xs.2.1 ≤ 1114111)), spec := fun xs => (idxRune xs.2.1, ()) }
theorem indexRuneOk : CpOk Tryd.prog gl 67 cIndexRune := con67 (k := 100) (by
    unfold cp67s
    simp only [List.forall_mem_cons]
    exact ⟨indexByteOk, fun _ h => by cases h⟩) (fun xs h => by
    simp only [Bool.and_eq_true, decide_eq_true_eq] at h
    exact ⟨h.1, fn67_ok _ _ (by omega) h.2.1 h.2.2⟩)
end Go.Proofs.YtholnbknimfbhaaDoor

set_option linter.unusedVariables false
set_option linter.unusedSimpArgs false
set_option maxRecDepth 100000
open Go.Proofs
namespace Go.Proofs.YtholnbknimfbhaaDoor
open Go Go.Fy Go.RowKit

noncomputable def P36_0 : SP := { ts := [(.hole .str), .un, (.pt 0 0), (.hole .bool), (.hole (.int .i64)), .un, .un, .un, .un, .un, .un, .un, .un, .un, .un, .un, .un, .un, .un, .un, .un], h := [(.cells [(.hole (.arr 256 .bool))])], df := [] }
noncomputable def P36_1 : SP := { ts := [(.cs [0, 47]), .un, (.pt 0 0), (.cb false), (.hole (.int .i64)), .un, .un, .un, .un, .un, .un, .un, .un, .un, .un, .un, .un, .un, .un, .un, .un], h := [(.cells [(.hole (.arr 256 .bool))])], df := [] }
noncomputable def P36_2 : SP := { ts := [.un, (.hole .str), .un, .un, (.hole (.int .i64)), .un, .un, .un, .un, .un, .un, .un, .un, .un, .un, .un, .un, .un, .un, .un, .un, .un, .un, .un, .un, .un, .un, .un, .un, .un, .un, .un, .un, .un, .un, .un, .un, .un, .un, .un, .un, .un, .un, .un, .un, (.it 1), .un, .un, .un, .un, .un, .un, .un, .un, .un], h := [(.cells [(.hole (.arr 256 .bool))]), (.iter .h)], df := [] }
noncomputable def P36_3 : SP := { ts := [.un, (.cs [0, 47]), .un, .un, (.ci .i64 (0)), .un, .un, .un, .un, .un, .un, .un, .un, .un, .un, .un, .un, .un, .un, .un, .un, .un, .un, .un, .un, .un, .un, .un, .un, .un, .un, .un, .un, .un, .un, .un, .un, .un, .un, .un, .un, .un, .un, .un, .un, (.it 1), .un, .un, .un, .un, .un, .un, .un, .un, .un], h := [(.cells [(.hole (.arr 256 .bool))]), (.iter .h)], df := [] }
noncomputable def P36_4 : SP := { ts := [(.hole .str), .un, .un, .un, (.hole (.int .i64)), .un, (.pt 0 0), .un, (.hole (.int .i64)), .un, .un, .un, .un, .un, .un, .un, .un, .un, .un, .un, .un, .un, .un, .un, .un, .un, .un, .un, .un, .un, .un, .un, .un, .un, .un, .un, .un, .un, .un, .un, .un, .un, .un, .un, .un, .un, .un, .un, .un, .un, .un, .un, .un, .un, .un], h := [(.cells [(.hole (.arr 256 .bool))])], df := [] }
noncomputable def P36_5 : SP := { ts := [(.hole .str), .un, .un, .un, (.ci .i64 (0)), .un, (.pt 0 0), .un, (.hole (.int .i64)), .un, .un, .un, .un, .un, .un, .un, .un, .un, .un, .un, .un, .un, .un, .un, .un, .un, .un, .un, .un, .un, .un, .un, .un, .un, .un, .un, .un, .un, .un, .un, .un, .un, .un, .un, .un, .un, .un, .un, .un, .un, .un, .un, .un, .un, .un], h := [(.cells [(.hole (.arr 256 .bool))])], df := [] }
noncomputable def P36_6 : SP := { ts := [.un, (.hole .str), .un, .un, (.hole (.int .i64)), .un, .un, .un, .un, .un, .un, .un, .un, .un, .un, .un, .un, .un, .un, .un, .un, .un, .un, .un, .un, .un, .un, .un, .un, .un, .un, .un, .un, .un, .un, .un, .un, .un, .un, .un, .un, .un, .un, .un, .un, (.it 0), .un, .un, .un, .un, .un, .un, .un, .un, .un], h := [(.iter .h)], df := [] }
noncomputable def P36_7 : SP := { ts := [.un, (.cs [0, 47]), .un, .un, (.ci .i64 (0)), .un, .un, .un, .un, .un, .un, .un, .un, .un, .un, .un, .un, .un, .un, .un, .un, .un, .un, .un, .un, .un, .un, .un, .un, .un, .un, .un, .un, .un, .un, .un, .un, .un, .un, .un, .un, .un, .un, .un, .un, (.it 0), .un, .un, .un, .un, .un, .un, .un, .un, .un], h := [(.iter .h)], df := [] }
noncomputable def T36_0_0 {ρ : Type} (k : Nat) (N0 : Int → (List Bool) → Option ρ) (K0 : Int → (List Bool) → Option ρ) (K1 : Int → (List Bool) → Option ρ) (t4 : Int) (h0_0 : List Bool) : Option ρ :=
  bif (decide (t4 < (2 : Int))) then (
    if (inR t4 2) then (
      bif (decide ((byteAt ([0, 47] : List UInt8) (t4).toNat) ≥ (128 : Int))) then (
        K0 t4 h0_0)
      else (
        if (inR (byteAt ([0, 47] : List UInt8) (t4).toNat) 256) then (
          N0 (IntKind.wrap .i64 (t4 + (1 : Int))) (List.set h0_0 ((byteAt ([0, 47] : List UInt8) (t4).toNat)).toNat true)) else none)) else none)
  else (
    K1 t4 h0_0)
noncomputable def L36_0_0 {ρ : Type} (K0 : Int → (List Bool) → Option ρ) (K1 : Int → (List Bool) → Option ρ) (k : Nat)  : Nat → Int → (List Bool) → Option ρ
  | 0, _, _ => none
  | n + 1, t4, h0_0 => T36_0_0 k (L36_0_0 K0 K1 k  n) K0 K1  t4 h0_0
noncomputable def en36_0 : LE := { code := (subC [1, 0, 1, 0, 0] (bd Tryd.f69)), inR := false, pat := P36_1, hs := [.d (.int .i64), .d (.arr 256 .bool)], need := 0, run := fun ρ k v K => L36_0_0 (fun (z0 : Int) (z1 : List Bool) => K .ret (fillH P36_0 [.d .str, .d .bool, .d (.int .i64), .d (.arr 256 .bool)] (([0, 47] : List UInt8), false, z0, z1, ()))) (fun (z0 : Int) (z1 : List Bool) => K (.exit 0) (fillH P36_0 [.d .str, .d .bool, .d (.int .i64), .d (.arr 256 .bool)] (([0, 47] : List UInt8), false, z0, z1, ()))) k  k v.1 v.2.1 }
noncomputable def T36_1_0 {ρ : Type} (k : Nat) (N0 : Nat → Option ρ) (K0 : Int → Nat → Option ρ) (K1 : Nat → Option ρ) (h1s : List UInt8) (h1p : Nat) : Option ρ :=
  if (h1p < (h1s).length) then (
    bif (cIndexRune.pre (([0, 47] : List UInt8), ((decL h1s h1p).1 : Int), ())) then (
      bif (decide ((idxRune ((decL h1s h1p).1 : Int)) ≥ (0 : Int))) then (
        K0 (h1p : Int) (h1p + (decL h1s h1p).2))
      else (
        N0 (h1p + (decL h1s h1p).2))) else none)
  else (
    K1 h1p)
noncomputable def L36_1_0 {ρ : Type} (K0 : Int → Nat → Option ρ) (K1 : Nat → Option ρ) (k : Nat) (h1s : List UInt8) : Nat → Nat → Option ρ
  | 0, _ => none
  | n + 1, h1p => T36_1_0 k (L36_1_0 K0 K1 k h1s n) K0 K1 h1s h1p
noncomputable def en36_1 : LE := { code := (subC [1, 1, 1, 1, 0, 1, 0, 0] (bd Tryd.f53)), inR := false, pat := P36_3, hs := [.d (.arr 256 .bool), .d .str, .n], need := 1, run := fun ρ k v K => L36_1_0 (fun (z0 : Int) (z1 : Nat) => K .ret (fillH P36_2 [.d .str, .d (.int .i64), .d (.arr 256 .bool), .d .str, .n] (([0, 47] : List UInt8), z0, v.1, v.2.1, z1, ()))) (fun (z0 : Nat) => K (.exit 2) (fillH P36_2 [.d .str, .d (.int .i64), .d (.arr 256 .bool), .d .str, .n] (([0, 47] : List UInt8), (0 : Int), v.1, v.2.1, z0, ()))) k v.2.1 k v.2.2.1 }
noncomputable def T36_2_0 {ρ : Type} (k : Nat) (N0 : Int → Option ρ) (K0 : Int → Option ρ) (K1 : Int → Option ρ) (t0 : List UInt8) (h0_0 : List Bool) (t8 : Int) : Option ρ :=
  bif (decide (t8 < ((t0).length : Int))) then (
    if (inR t8 (t0).length) then (
      if (inR (byteAt t0 (t8).toNat) 256) then (
        bif (List.getD h0_0 ((byteAt t0 (t8).toNat)).toNat false) then (
          K0 t8)
        else (
          N0 (IntKind.wrap .i64 (t8 + (1 : Int))))) else none) else none)
  else (
    K1 t8)
noncomputable def L36_2_0 {ρ : Type} (K0 : Int → Option ρ) (K1 : Int → Option ρ) (k : Nat) (t0 : List UInt8) (h0_0 : List Bool) : Nat → Int → Option ρ
  | 0, _ => none
  | n + 1, t8 => T36_2_0 k (L36_2_0 K0 K1 k t0 h0_0 n) K0 K1 t0 h0_0 t8
noncomputable def en36_2 : LE := { code := (subC [1, 1, 1, 0, 1, 0, 1, 1, 0, 0, 1, 0, 0] (bd Tryd.f53)), inR := false, pat := P36_5, hs := [.d .str, .d (.int .i64), .d (.arr 256 .bool)], need := 1, run := fun ρ k v K => L36_2_0 (fun (z0 : Int) => K .ret (fillH P36_4 [.d .str, .d (.int .i64), .d (.int .i64), .d (.arr 256 .bool)] (v.1, z0, z0, v.2.2.1, ()))) (fun (z0 : Int) => K (.exit 0) (fillH P36_4 [.d .str, .d (.int .i64), .d (.int .i64), .d (.arr 256 .bool)] (v.1, (0 : Int), z0, v.2.2.1, ()))) k v.1 v.2.2.1 k v.2.1 }
noncomputable def T36_3_0 {ρ : Type} (k : Nat) (N0 : Nat → Option ρ) (K0 : Int → Nat → Option ρ) (K1 : Nat → Option ρ) (h0s : List UInt8) (h0p : Nat) : Option ρ :=
  if (h0p < (h0s).length) then (
    bif (cIndexRune.pre (([0, 47] : List UInt8), ((decL h0s h0p).1 : Int), ())) then (
      bif (decide ((idxRune ((decL h0s h0p).1 : Int)) ≥ (0 : Int))) then (
        K0 (h0p : Int) (h0p + (decL h0s h0p).2))
      else (
        N0 (h0p + (decL h0s h0p).2))) else none)
  else (
    K1 h0p)
noncomputable def L36_3_0 {ρ : Type} (K0 : Int → Nat → Option ρ) (K1 : Nat → Option ρ) (k : Nat) (h0s : List UInt8) : Nat → Nat → Option ρ
  | 0, _ => none
  | n + 1, h0p => T36_3_0 k (L36_3_0 K0 K1 k h0s n) K0 K1 h0s h0p
noncomputable def en36_3 : LE := { code := (subC [1, 1, 1, 1, 0, 1, 0, 0] (bd Tryd.f53)), inR := false, pat := P36_7, hs := [.d .str, .n], need := 1, run := fun ρ k v K => L36_3_0 (fun (z0 : Int) (z1 : Nat) => K .ret (fillH P36_6 [.d .str, .d (.int .i64), .d .str, .n] (([0, 47] : List UInt8), z0, v.1, z1, ()))) (fun (z0 : Nat) => K (.exit 2) (fillH P36_6 [.d .str, .d (.int .i64), .d .str, .n] (([0, 47] : List UInt8), (0 : Int), v.1, z0, ()))) k v.1 k v.2.1 }
noncomputable def lp36 : List (Nat × Nat × LE) := [(69, 2, en36_0), (53, 18, en36_1), (53, 12, en36_2), (53, 18, en36_3)]
noncomputable def cp36s : List (Nat × CP) := [(67, cIndexRune)]
noncomputable def dr36 : List (Nat × List Nat) := []
noncomputable def tb36 : Tb := mkT lp36 cp36s
noncomputable def e36 : Env := mkE tys gl fns dr36 [(53, [(12, [0, 4, 6, 8]), (18, [1, 4, 45])]), (69, [(2, [0, 2, 3, 4])])] cp36s
theorem st36_0_0 {ρ : Type} (d k n : Nat) (K : Ex → St → Option ρ) (t4 : Int) (h0_0 : List Bool) : evLoop (en36_0.F tb36 e36 69 k (d + en36_0.need)) (en36_0.gc e36 69) (n + 1) (fillH P36_1 [.d (.int .i64), .d (.arr 256 .bool)] (t4, h0_0, ())) (en36_0.KX e36 69 K) =
    T36_0_0 k (fun (t4' : Int) (h0_0' : List Bool) => evLoop (en36_0.F tb36 e36 69 k (d + en36_0.need)) (en36_0.gc e36 69) n (fillH P36_1 [.d (.int .i64), .d (.arr 256 .bool)] (t4', h0_0', ())) (en36_0.KX e36 69 K)) (fun (z0 : Int) (z1 : List Bool) => K .ret (fillH P36_0 [.d .str, .d .bool, .d (.int .i64), .d (.arr 256 .bool)] (([0, 47] : List UInt8), false, z0, z1, ()))) (fun (z0 : Int) (z1 : List Bool) => K (.exit 0) (fillH P36_0 [.d .str, .d .bool, .d (.int .i64), .d (.arr 256 .bool)] (([0, 47] : List UInt8), false, z0, z1, ()))) t4 h0_0 := by kernel_rfl
theorem go36_0_0 {ρ : Type} (d k : Nat) (K : Ex → St → Option ρ)  : ∀ (n : Nat) (t4 : Int) (h0_0 : List Bool), evLoop (en36_0.F tb36 e36 69 k (d + en36_0.need)) (en36_0.gc e36 69) n (fillH P36_1 [.d (.int .i64), .d (.arr 256 .bool)] (t4, h0_0, ())) (en36_0.KX e36 69 K) = L36_0_0 (fun (z0 : Int) (z1 : List Bool) => K .ret (fillH P36_0 [.d .str, .d .bool, .d (.int .i64), .d (.arr 256 .bool)] (([0, 47] : List UInt8), false, z0, z1, ()))) (fun (z0 : Int) (z1 : List Bool) => K (.exit 0) (fillH P36_0 [.d .str, .d .bool, .d (.int .i64), .d (.arr 256 .bool)] (([0, 47] : List UInt8), false, z0, z1, ()))) k  n t4 h0_0 := by
  intro n
  induction n with
  | zero => intros; rfl
  | succ n ih =>
    intro t4 h0_0
    rw [st36_0_0 d k n K t4 h0_0]
    simp only [ih]
    rfl
theorem ok36_0 (k : Nat) : en36_0.Ok tb36 e36 k 69 := fun ρ d v K => (go36_0_0 d k K  k v.1 v.2.1).symm
theorem st36_1_0 {ρ : Type} (d k n : Nat) (K : Ex → St → Option ρ) (h0_0 : List Bool) (h1s : List UInt8) (h1p : Nat) : evLoop (en36_1.F tb36 e36 53 k (d + en36_1.need)) (en36_1.gc e36 53) (n + 1) (fillH P36_3 [.d (.arr 256 .bool), .d .str, .n] (h0_0, h1s, h1p, ())) (en36_1.KX e36 53 K) =
    T36_1_0 k (fun (h1p' : Nat) => evLoop (en36_1.F tb36 e36 53 k (d + en36_1.need)) (en36_1.gc e36 53) n (fillH P36_3 [.d (.arr 256 .bool), .d .str, .n] (h0_0, h1s, h1p', ())) (en36_1.KX e36 53 K)) (fun (z0 : Int) (z1 : Nat) => K .ret (fillH P36_2 [.d .str, .d (.int .i64), .d (.arr 256 .bool), .d .str, .n] (([0, 47] : List UInt8), z0, h0_0, h1s, z1, ()))) (fun (z0 : Nat) => K (.exit 2) (fillH P36_2 [.d .str, .d (.int .i64), .d (.arr 256 .bool), .d .str, .n] (([0, 47] : List UInt8), (0 : Int), h0_0, h1s, z0, ()))) h1s h1p := by kernel_rfl
theorem go36_1_0 {ρ : Type} (d k : Nat) (K : Ex → St → Option ρ) (h0_0 : List Bool) (h1s : List UInt8) : ∀ (n : Nat) (h1p : Nat), evLoop (en36_1.F tb36 e36 53 k (d + en36_1.need)) (en36_1.gc e36 53) n (fillH P36_3 [.d (.arr 256 .bool), .d .str, .n] (h0_0, h1s, h1p, ())) (en36_1.KX e36 53 K) = L36_1_0 (fun (z0 : Int) (z1 : Nat) => K .ret (fillH P36_2 [.d .str, .d (.int .i64), .d (.arr 256 .bool), .d .str, .n] (([0, 47] : List UInt8), z0, h0_0, h1s, z1, ()))) (fun (z0 : Nat) => K (.exit 2) (fillH P36_2 [.d .str, .d (.int .i64), .d (.arr 256 .bool), .d .str, .n] (([0, 47] : List UInt8), (0 : Int), h0_0, h1s, z0, ()))) k h1s n h1p := by
  intro n
  induction n with
  | zero => intros; rfl
  | succ n ih =>
    intro h1p
    rw [st36_1_0 d k n K h0_0 h1s h1p]
    simp only [ih]
    rfl
theorem ok36_1 (k : Nat) : en36_1.Ok tb36 e36 k 53 := fun ρ d v K => (go36_1_0 d k K v.1 v.2.1 k v.2.2.1).symm
theorem st36_2_0 {ρ : Type} (d k n : Nat) (K : Ex → St → Option ρ) (t0 : List UInt8) (t8 : Int) (h0_0 : List Bool) : evLoop (en36_2.F tb36 e36 53 k (d + en36_2.need)) (en36_2.gc e36 53) (n + 1) (fillH P36_5 [.d .str, .d (.int .i64), .d (.arr 256 .bool)] (t0, t8, h0_0, ())) (en36_2.KX e36 53 K) =
    T36_2_0 k (fun (t8' : Int) => evLoop (en36_2.F tb36 e36 53 k (d + en36_2.need)) (en36_2.gc e36 53) n (fillH P36_5 [.d .str, .d (.int .i64), .d (.arr 256 .bool)] (t0, t8', h0_0, ())) (en36_2.KX e36 53 K)) (fun (z0 : Int) => K .ret (fillH P36_4 [.d .str, .d (.int .i64), .d (.int .i64), .d (.arr 256 .bool)] (t0, z0, z0, h0_0, ()))) (fun (z0 : Int) => K (.exit 0) (fillH P36_4 [.d .str, .d (.int .i64), .d (.int .i64), .d (.arr 256 .bool)] (t0, (0 : Int), z0, h0_0, ()))) t0 h0_0 t8 := by kernel_rfl
theorem go36_2_0 {ρ : Type} (d k : Nat) (K : Ex → St → Option ρ) (t0 : List UInt8) (h0_0 : List Bool) : ∀ (n : Nat) (t8 : Int), evLoop (en36_2.F tb36 e36 53 k (d + en36_2.need)) (en36_2.gc e36 53) n (fillH P36_5 [.d .str, .d (.int .i64), .d (.arr 256 .bool)] (t0, t8, h0_0, ())) (en36_2.KX e36 53 K) = L36_2_0 (fun (z0 : Int) => K .ret (fillH P36_4 [.d .str, .d (.int .i64), .d (.int .i64), .d (.arr 256 .bool)] (t0, z0, z0, h0_0, ()))) (fun (z0 : Int) => K (.exit 0) (fillH P36_4 [.d .str, .d (.int .i64), .d (.int .i64), .d (.arr 256 .bool)] (t0, (0 : Int), z0, h0_0, ()))) k t0 h0_0 n t8 := by
  intro n
  induction n with
  | zero => intros; rfl
  | succ n ih =>
    intro t8
    rw [st36_2_0 d k n K t0 t8 h0_0]
    simp only [ih]
    rfl
theorem ok36_2 (k : Nat) : en36_2.Ok tb36 e36 k 53 := fun ρ d v K => (go36_2_0 d k K v.1 v.2.2.1 k v.2.1).symm
theorem st36_3_0 {ρ : Type} (d k n : Nat) (K : Ex → St → Option ρ) (h0s : List UInt8) (h0p : Nat) : evLoop (en36_3.F tb36 e36 53 k (d + en36_3.need)) (en36_3.gc e36 53) (n + 1) (fillH P36_7 [.d .str, .n] (h0s, h0p, ())) (en36_3.KX e36 53 K) =
    T36_3_0 k (fun (h0p' : Nat) => evLoop (en36_3.F tb36 e36 53 k (d + en36_3.need)) (en36_3.gc e36 53) n (fillH P36_7 [.d .str, .n] (h0s, h0p', ())) (en36_3.KX e36 53 K)) (fun (z0 : Int) (z1 : Nat) => K .ret (fillH P36_6 [.d .str, .d (.int .i64), .d .str, .n] (([0, 47] : List UInt8), z0, h0s, z1, ()))) (fun (z0 : Nat) => K (.exit 2) (fillH P36_6 [.d .str, .d (.int .i64), .d .str, .n] (([0, 47] : List UInt8), (0 : Int), h0s, z0, ()))) h0s h0p := by kernel_rfl
theorem go36_3_0 {ρ : Type} (d k : Nat) (K : Ex → St → Option ρ) (h0s : List UInt8) : ∀ (n : Nat) (h0p : Nat), evLoop (en36_3.F tb36 e36 53 k (d + en36_3.need)) (en36_3.gc e36 53) n (fillH P36_7 [.d .str, .n] (h0s, h0p, ())) (en36_3.KX e36 53 K) = L36_3_0 (fun (z0 : Int) (z1 : Nat) => K .ret (fillH P36_6 [.d .str, .d (.int .i64), .d .str, .n] (([0, 47] : List UInt8), z0, h0s, z1, ()))) (fun (z0 : Nat) => K (.exit 2) (fillH P36_6 [.d .str, .d (.int .i64), .d .str, .n] (([0, 47] : List UInt8), (0 : Int), h0s, z0, ()))) k h0s n h0p := by
  intro n
  induction n with
  | zero => intros; rfl
  | succ n ih =>
    intro h0p
    rw [st36_3_0 d k n K h0s h0p]
    simp only [ih]
    rfl
theorem ok36_3 (k : Nat) : en36_3.Ok tb36 e36 k 53 := fun ρ d v K => (go36_3_0 d k K v.1 k v.2.1).symm
noncomputable def fn36 (k : Nat) (x0 : List UInt8) : Option (DenL [.bool]) :=
  bif (decide (((x0).length : Int) > (8 : Int))) then (
    L36_0_0 (fun (y1 : Int) (y2 : List Bool) =>
      L36_1_0 (fun (y3 : Int) (y4 : Nat) =>
        some ((decide (y3 ≥ (0 : Int))), ())) (fun (y5 : Nat) =>
        some (false, ())) k x0 k 0) (fun (y6 : Int) (y7 : List Bool) =>
      L36_2_0 (fun (y8 : Int) =>
        some ((decide (y8 ≥ (0 : Int))), ())) (fun (y9 : Int) =>
        some (false, ())) k x0 y7 k (0 : Int)) k  k (0 : Int) (List.replicate 256 false))
  else (
    L36_3_0 (fun (y10 : Int) (y11 : Nat) =>
      some ((decide (y10 ≥ (0 : Int))), ())) (fun (y12 : Nat) =>
      some (false, ())) k x0 k 0)
theorem ev36 (k : Nat) (x0 : List UInt8) : (orcL tb36 e36 k 3).call 36 (ofRes [.str, .str] (x0, ([0, 47] : List UInt8), ())) [] (KD [.bool]) = fn36 k x0 := by kernel_rfl
theorem con36 {k : Nat} {pre : DenL [.str, .str] → Bool} {spec : DenL [.str, .str] → DenL [.bool]} (hC : ∀ p ∈ cp36s, CpOk Tryd.prog gl p.1 p.2) (hp : ∀ xs, pre xs = true → xs.2.1 = ([0, 47] : List UInt8) ∧ fn36 k xs.1 = some (spec xs)) : CpOk Tryd.prog gl 36 { args := [.str, .str], res := [.bool], pre, spec } :=
  con_of (lps := lp36) (drl := dr36) (kpl := [(53, [(12, [0, 4, 6, 8]), (18, [1, 4, 45])]), (69, [(2, [0, 2, 3, 4])])]) (k := k) seatOk hC (by
    unfold lp36
    simp only [List.forall_mem_cons]
    exact ⟨ok36_0 k, ok36_1 k, ok36_2 k, ok36_3 k, fun _ h => by cases h⟩) (fun p h => by cases h) (by kernel_rfl) 3 (by
    intro ⟨x0, x1, _⟩ hx
    obtain ⟨h1, h⟩ := hp _ hx
    simp only at h1
    subst h1
    exact (ev36 k x0).trans h)
end Go.Proofs.YtholnbknimfbhaaDoor

set_option linter.unusedVariables false
set_option linter.unusedSimpArgs false
open Go.Proofs
namespace Go.Proofs.YtholnbknimfbhaaDoor
open Go Go.Fy Go.RowKit

def badB (b : UInt8) : Bool := b == 0 || b == 47

theorem pre_idx {r : Int} (h0 : 0 ≤ r) (h1 : r ≤ 1114111) : cIndexRune.pre (([0, 47] : List UInt8), r, ()) = true := by simp [cIndexRune, h0, h1]

theorem idxRune_byte (b : UInt8) : decide (idxRune (b.toNat : Int) ≥ 0) = badB b := by
  have : ∀ n : Fin 256, decide (idxRune ((UInt8.ofNat n.val).toNat : Int) ≥ 0) = badB (UInt8.ofNat n.val) := of_decide_eq_true (by kernel_rfl)
  have h := this ⟨b.toNat, b.toNat_lt⟩
  simpa using h
def tab36 : List Bool := ((List.replicate 256 false).set 0 true).set 47 true
theorem tab_byte (b : UInt8) : tab36.getD b.toNat false = badB b := by
  have : ∀ n : Fin 256, tab36.getD n.val false = badB (UInt8.ofNat n.val) := of_decide_eq_true (by kernel_rfl)
  have h := this ⟨b.toNat, b.toNat_lt⟩
  simpa using h

theorem drop_any {s : List UInt8} {p : Nat} {b : UInt8} (h : s[p]? = some b) : (s.drop p).any badB = (badB b || (s.drop (p + 1)).any badB) := by
  have hp := (List.getElem?_eq_some_iff.1 h)
  rw [List.drop_eq_getElem_cons hp.1, List.any_cons, hp.2]

theorem skip_any (s : List UInt8) (p : Nat) : ∀ w : Nat, (∀ j, p ≤ j → j < p + w → ∃ x : UInt8, s[j]? = some x ∧ 128 ≤ x.toNat) → (s.drop p).any badB = (s.drop (p + w)).any badB
  | 0, _ => rfl
  | w + 1, h => by
    rw [skip_any s p w (fun j h1 h2 => h j h1 (by omega))]
    obtain ⟨x, hx, hb⟩ := h (p + w) (by omega) (by omega)
    rw [drop_any hx]
    have : badB x = false := by
      unfold badB
      have h0 : x ≠ 0 := by intro e; subst e; exact absurd hb (by decide)
      have h1 : x ≠ 47 := by intro e; subst e; exact absurd hb (by decide)
      simp [h0, h1]
    rw [this]
    rfl

theorem L36_3_ok {ρ : Type} {K0 : Int → Nat → Option ρ} {K1 : Nat → Option ρ} {X Y : Option ρ} (hX : ∀ (a b : Nat), K0 (a : Int) b = X) (hY : ∀ b, K1 b = Y) (k : Nat) (s : List UInt8) :
    ∀ (fuel p : Nat), s.length < fuel + p → 0 < fuel → L36_3_0 K0 K1 k s fuel p = if (s.drop p).any badB = true then X else Y
  | 0, p, _, h => by omega
  | fuel + 1, p, h, _ => by
    rw [L36_3_0]
    unfold T36_3_0
    by_cases hp : p < s.length
    · rw [if_pos hp]
      have hb := List.getElem?_eq_getElem hp
      generalize s[p] = b at hb
      by_cases ha : b.toNat < 128
      · have d := decL_ascii hb ha
        have e1 : cIndexRune.pre (([0, 47] : List UInt8), (b.toNat : Int), ()) = true := pre_idx (by omega) (by omega)
        rw [d]
        simp only [e1, cond_true, idxRune_byte]
        rw [drop_any hb]
        cases badB b with
        | true => simp [hX]
        | false =>
          simp only [cond_false, Bool.false_or]
          have h5 : s.length < fuel + (p + 1) := by omega
          have h6 : 0 < fuel := by omega
          exact L36_3_ok hX hY k s fuel (p + 1) h5 h6
      · obtain ⟨d1, d2, d3, d4⟩ := decL_wide hb (by omega)
        have e1 : cIndexRune.pre (([0, 47] : List UInt8), ((decL s p).1 : Int), ()) = true := pre_idx (by omega) (by omega)
        have e2 : idxRune ((decL s p).1 : Int) = -1 := by
          unfold idxRune
          rw [if_neg (by omega), if_neg (by omega)]
        simp only [e1, cond_true, e2]
        rw [skip_any s p (decL s p).2 (fun j h1 h2 => by
          by_cases hj : j = p
          · subst hj; exact ⟨b, hb, by omega⟩
          · exact d4 j (by omega) h2)]
        by_cases hf : fuel = 0
        · omega
        · exact L36_3_ok hX hY k s fuel _ (by omega) (by omega)
    · rw [if_neg hp, hY, List.drop_of_length_le (by omega)]
      rfl

theorem L36_0_ok {ρ : Type} (K0 K1 : Int → (List Bool) → Option ρ) (k m : Nat) : L36_0_0 K0 K1 k (m + 3) 0 (List.replicate 256 false) = K1 2 tab36 := by
  have w1 : IntKind.wrap .i64 ((0 : Int) + 1) = 1 := wrap_i64 (by decide) (by decide)
  have w2 : IntKind.wrap .i64 ((1 : Int) + 1) = 2 := wrap_i64 (by decide) (by decide)
  have b0 : byteAt ([0, 47] : List UInt8) (0 : Int).toNat = 0 := rfl
  have b1 : byteAt ([0, 47] : List UInt8) (1 : Int).toNat = 47 := rfl
  have i0 : inR (0 : Int) 2 := ⟨by decide, by decide⟩
  have i1 : inR (1 : Int) 2 := ⟨by decide, by decide⟩
  have i2 : inR (0 : Int) 256 := ⟨by decide, by decide⟩
  have i3 : inR (47 : Int) 256 := ⟨by decide, by decide⟩
  rw [L36_0_0]
  unfold T36_0_0
  rw [b0, w1, if_pos i0, if_pos i2, L36_0_0]
  unfold T36_0_0
  rw [b1, w2, if_pos i1, if_pos i3, L36_0_0]
  rfl

theorem L36_2_ok {ρ : Type} {K0 : Int → Option ρ} {K1 : Int → Option ρ} {X Y : Option ρ} (hX : ∀ (a : Nat), K0 (a : Int) = X) (hY : ∀ b, K1 b = Y) (k : Nat) (s : List UInt8) (hs : s.length < 1000000000) :
    ∀ (fuel p : Nat), s.length < fuel + p → 0 < fuel → L36_2_0 K0 K1 k s tab36 fuel (p : Int) = if (s.drop p).any badB = true then X else Y
  | 0, p, _, h => by omega
  | fuel + 1, p, h, _ => by
    rw [L36_2_0]
    unfold T36_2_0
    by_cases hp : p < s.length
    · have hb := List.getElem?_eq_getElem hp
      have e1 : byteAt s p = ((s[p]).toNat : Int) := by simp [byteAt, hp]
      generalize s[p] = b at hb e1
      have e2 : inR (p : Int) s.length := ⟨by omega, by omega⟩
      have e3 : inR (b.toNat : Int) 256 := ⟨by omega, by have := b.toNat_lt; omega⟩
      have e4 : (p : Int) < (s.length : Int) := by omega
      have w : IntKind.wrap .i64 ((p : Int) + 1) = ((p + 1 : Nat) : Int) := wrap_i64 (by omega) (by omega)
      simp only [e4, decide_true, cond_true, e2, if_true, Int.toNat_natCast, e1, e3, tab_byte, w]
      rw [drop_any hb]
      cases badB b with
      | true => simp [hX]
      | false =>
        simp only [cond_false, Bool.false_or]
        exact L36_2_ok hX hY k s hs fuel (p + 1) (by omega) (by omega)
    · have e4 : ¬ ((p : Int) < (s.length : Int)) := by omega
      simp only [e4, decide_false, cond_false, hY]
      rw [List.drop_of_length_le (by omega)]
      rfl

theorem fn36_ok (k : Nat) (s : List UInt8) (hk : s.length < k) (h3 : 3 ≤ k) (hs : s.length < 1000000000) : fn36 k s = some (s.any badB, ()) := by
  unfold fn36
  have fin : (if (s.drop 0).any badB = true then some (true, ()) else some (false, ())) = some (s.any badB, ()) := by
    cases h : s.any badB <;> simp [h]
  obtain ⟨m, rfl⟩ : ∃ m, k = m + 3 := ⟨k - 3, by omega⟩
  by_cases h8 : (s.length : Int) > 8
  · rw [decide_eq_true h8, cond_true, L36_0_ok]
    have := L36_2_ok (K0 := fun (y8 : Int) => (some ((decide (y8 ≥ (0 : Int))), ()) : Option (DenL [.bool]))) (K1 := fun (y9 : Int) => some (false, ())) (X := some (true, ())) (Y := some (false, ()))
      (fun a => by have : (a : Int) ≥ 0 := by omega
                   simp [this]) (fun b => rfl) (m + 3) s hs (m + 3) 0 (by omega) (by omega)
    exact this.trans fin
  · rw [decide_eq_false h8, cond_false]
    have := L36_3_ok (K0 := fun (y8 : Int) (_ : Nat) => (some ((decide (y8 ≥ (0 : Int))), ()) : Option (DenL [.bool]))) (K1 := fun (y9 : Nat) => some (false, ())) (X := some (true, ())) (Y := some (false, ()))
      (fun a b => by have : (a : Int) ≥ 0 := by omega
                     simp [this]) (fun b => rfl) (m + 3) s (m + 3) 0 (by omega) (by omega)
    exact this.trans fin

noncomputable def cContainsAny : CP := { args := [.str, .str], res := [.bool], pre := fun xs => decide (xs.2.1 = [0, 47]) && decide (xs.1.length < 100000000), spec := fun xs => (xs.1.any badB, ()) }
theorem containsAnyOk : CpOk Tryd.prog gl 36 cContainsAny := con36 (k := 100000000) (by
    unfold cp36s
    simp only [List.forall_mem_cons]
    exact ⟨indexRuneOk, fun _ h => by cases h⟩) (fun xs h => by
    simp only [Bool.and_eq_true, decide_eq_true_eq] at h
    exact ⟨h.1, fn36_ok _ _ h.2 (by omega) (by omega)⟩)
end Go.Proofs.YtholnbknimfbhaaDoor

set_option linter.unusedVariables false
set_option linter.unusedSimpArgs false
set_option maxRecDepth 100000
open Go.Proofs
namespace Go.Proofs.YtholnbknimfbhaaDoor
open Go Go.Fy Go.RowKit

noncomputable def lp18 : List (Nat × Nat × LE) := []
noncomputable def cp18s : List (Nat × CP) := [(36, cContainsAny)]
noncomputable def dr18 : List (Nat × List Nat) := []
noncomputable def tb18 : Tb := mkT lp18 cp18s
noncomputable def e18 : Env := mkE tys gl fns dr18 [] cp18s
noncomputable def fn18 (k : Nat) (x0 : List UInt8) : Option (DenL [.bool]) :=
  bif (!(x0 == ([] : List UInt8))) then (
    bif (decide (((x0).length : Int) ≤ (31 : Int))) then (
      bif (!(x0 == ([46] : List UInt8))) then (
        bif (!(x0 == ([46, 46] : List UInt8))) then (
          bif (cContainsAny.pre (x0, ([0, 47] : List UInt8), ())) then (
            some ((!(List.any x0 badB)), ())) else none)
        else (
          some (false, ())))
      else (
        some (false, ())))
    else (
      some (false, ())))
  else (
    some (false, ()))
theorem ev18 (k : Nat) (x0 : List UInt8) : (orcL tb18 e18 k 2).call 18 (ofRes [.str] (x0, ())) [] (KD [.bool]) = fn18 k x0 := by kernel_rfl
theorem con18 {k : Nat} {pre : DenL [.str] → Bool} {spec : DenL [.str] → DenL [.bool]} (hC : ∀ p ∈ cp18s, CpOk Tryd.prog gl p.1 p.2) (hp : ∀ xs, pre xs = true → fn18 k xs.1 = some (spec xs)) : CpOk Tryd.prog gl 18 { args := [.str], res := [.bool], pre, spec } :=
  con_of (lps := lp18) (drl := dr18) (kpl := []) (k := k) seatOk hC (fun p h => by cases h) (fun p h => by cases h) (by kernel_rfl) 2 (fun xs hx => (ev18 k xs.1).trans (hp xs hx))
end Go.Proofs.YtholnbknimfbhaaDoor

set_option linter.unusedVariables false
set_option linter.unusedSimpArgs false
set_option maxRecDepth 100000
open Go.Proofs
namespace Go.Proofs.YtholnbknimfbhaaDoor
open Go Go.Fy Go.RowKit

noncomputable def P20_0 : SP := { ts := [(.hole .str), .un, (.hole .bool), (.hole (.int .i64)), .un, .un, .un, .un, .un, .un, .un, .un, .un, .un, .un, .un, .un, .un, .un, .un, .un, .un, .un, .un, .un, .un, .un, .un, .un, .un, .un, .un, .un, .un, .un], h := [], df := [] }
noncomputable def P20_1 : SP := { ts := [(.hole .str), .un, (.cb false), (.hole (.int .i64)), .un, .un, .un, .un, .un, .un, .un, .un, .un, .un, .un, .un, .un, .un, .un, .un, .un, .un, .un, .un, .un, .un, .un, .un, .un, .un, .un, .un, .un, .un, .un], h := [], df := [] }
noncomputable def T20_0_0 {ρ : Type} (k : Nat) (N0 : Int → Option ρ) (K0 : Int → Option ρ) (K1 : Int → Option ρ) (t0 : List UInt8) (t3 : Int) : Option ρ :=
  bif (decide (t3 < ((t0).length : Int))) then (
    if (inR t3 (t0).length) then (
      bif ((byteAt t0 (t3).toNat) == (0 : Int)) then (
        K0 t3)
      else (
        if (inR t3 (t0).length) then (
          bif ((byteAt t0 (t3).toNat) == (47 : Int)) then (
            K0 t3)
          else (
            N0 (IntKind.wrap .i64 (t3 + (1 : Int))))) else none)) else none)
  else (
    K1 t3)
noncomputable def L20_0_0 {ρ : Type} (K0 : Int → Option ρ) (K1 : Int → Option ρ) (k : Nat) (t0 : List UInt8) : Nat → Int → Option ρ
  | 0, _ => none
  | n + 1, t3 => T20_0_0 k (L20_0_0 K0 K1 k t0 n) K0 K1 t0 t3
noncomputable def en20_0 : LE := { code := (subC [1, 1, 0, 1, 0, 0] (bd Tryd.f20)), inR := false, pat := P20_1, hs := [.d .str, .d (.int .i64)], need := 0, run := fun ρ k v K => L20_0_0 (fun (z0 : Int) => K .ret (fillH P20_0 [.d .str, .d .bool, .d (.int .i64)] (v.1, false, z0, ()))) (fun (z0 : Int) => K (.exit 0) (fillH P20_0 [.d .str, .d .bool, .d (.int .i64)] (v.1, false, z0, ()))) k v.1 k v.2.1 }
noncomputable def lp20 : List (Nat × Nat × LE) := [(20, 4, en20_0)]
noncomputable def cp20s : List (Nat × CP) := []
noncomputable def dr20 : List (Nat × List Nat) := []
noncomputable def tb20 : Tb := mkT lp20 cp20s
noncomputable def e20 : Env := mkE tys gl fns dr20 [(20, [(4, [0, 2, 3])])] cp20s
theorem st20_0_0 {ρ : Type} (d k n : Nat) (K : Ex → St → Option ρ) (t0 : List UInt8) (t3 : Int) : evLoop (en20_0.F tb20 e20 20 k (d + en20_0.need)) (en20_0.gc e20 20) (n + 1) (fillH P20_1 [.d .str, .d (.int .i64)] (t0, t3, ())) (en20_0.KX e20 20 K) =
    T20_0_0 k (fun (t3' : Int) => evLoop (en20_0.F tb20 e20 20 k (d + en20_0.need)) (en20_0.gc e20 20) n (fillH P20_1 [.d .str, .d (.int .i64)] (t0, t3', ())) (en20_0.KX e20 20 K)) (fun (z0 : Int) => K .ret (fillH P20_0 [.d .str, .d .bool, .d (.int .i64)] (t0, false, z0, ()))) (fun (z0 : Int) => K (.exit 0) (fillH P20_0 [.d .str, .d .bool, .d (.int .i64)] (t0, false, z0, ()))) t0 t3 := by kernel_rfl
theorem go20_0_0 {ρ : Type} (d k : Nat) (K : Ex → St → Option ρ) (t0 : List UInt8) : ∀ (n : Nat) (t3 : Int), evLoop (en20_0.F tb20 e20 20 k (d + en20_0.need)) (en20_0.gc e20 20) n (fillH P20_1 [.d .str, .d (.int .i64)] (t0, t3, ())) (en20_0.KX e20 20 K) = L20_0_0 (fun (z0 : Int) => K .ret (fillH P20_0 [.d .str, .d .bool, .d (.int .i64)] (t0, false, z0, ()))) (fun (z0 : Int) => K (.exit 0) (fillH P20_0 [.d .str, .d .bool, .d (.int .i64)] (t0, false, z0, ()))) k t0 n t3 := by
  intro n
  induction n with
  | zero => intros; rfl
  | succ n ih =>
    intro t3
    rw [st20_0_0 d k n K t0 t3]
    simp only [ih]
    rfl
theorem ok20_0 (k : Nat) : en20_0.Ok tb20 e20 k 20 := fun ρ d v K => (go20_0_0 d k K v.1 k v.2.1).symm
noncomputable def fn20 (k : Nat) (x0 : List UInt8) : Option (DenL [.bool]) :=
  bif (x0 == ([] : List UInt8)) then (
    some (false, ()))
  else (
    bif (decide (((x0).length : Int) > (31 : Int))) then (
      some (false, ()))
    else (
      bif (x0 == ([46] : List UInt8)) then (
        some (false, ()))
      else (
        bif (x0 == ([46, 46] : List UInt8)) then (
          some (false, ()))
        else (
          L20_0_0 (fun (y1 : Int) =>
            some (false, ())) (fun (y2 : Int) =>
            some (true, ())) k x0 k (0 : Int)))))
theorem ev20 (k : Nat) (x0 : List UInt8) : (orcL tb20 e20 k 1).call 20 (ofRes [.str] (x0, ())) [] (KD [.bool]) = fn20 k x0 := by kernel_rfl
theorem con20 {k : Nat} {pre : DenL [.str] → Bool} {spec : DenL [.str] → DenL [.bool]} (hC : ∀ p ∈ cp20s, CpOk Tryd.prog gl p.1 p.2) (hp : ∀ xs, pre xs = true → fn20 k xs.1 = some (spec xs)) : CpOk Tryd.prog gl 20 { args := [.str], res := [.bool], pre, spec } :=
  con_of (lps := lp20) (drl := dr20) (kpl := [(20, [(4, [0, 2, 3])])]) (k := k) seatOk hC (by
    unfold lp20
    simp only [List.forall_mem_cons]
    exact ⟨ok20_0 k, fun _ h => by cases h⟩) (fun p h => by cases h) (by kernel_rfl) 1 (fun xs hx => (ev20 k xs.1).trans (hp xs hx))
end Go.Proofs.YtholnbknimfbhaaDoor

set_option linter.unusedVariables false
set_option linter.unusedSimpArgs false
open Go.Proofs
namespace Go.Proofs.YtholnbknimfbhaaDoor
open Go Go.Fy Go.RowKit

def isNameS (s : List UInt8) : Bool := !(s == []) && (decide (s.length ≤ 31) && (!(s == [46]) && (!(s == [46, 46]) && !s.any badB)))

theorem fn18_ok (k : Nat) (s : List UInt8) (hs : s.length < 100000000) : fn18 k s = some (isNameS s, ()) := by
  have e : cContainsAny.pre (s, ([0, 47] : List UInt8), ()) = true := by simp [cContainsAny, hs]
  have e2 : decide ((s.length : Int) ≤ (31 : Int)) = decide (s.length ≤ 31) := decide_eq_decide.2 (by omega)
  unfold fn18 isNameS
  rw [e, e2]
  cases (s == ([] : List UInt8)) <;> cases decide (s.length ≤ 31) <;> cases (s == ([46] : List UInt8)) <;> cases (s == ([46, 46] : List UInt8)) <;> rfl

noncomputable def cIsName : CP := { args := [.str], res := [.bool], pre := fun xs => decide (xs.1.length < 100000000), spec := fun xs => (isNameS xs.1, ()) }
theorem isNameOk : CpOk Tryd.prog gl 18 cIsName := con18 (k := 100000000) (by
    unfold cp18s
    simp only [List.forall_mem_cons]
    exact ⟨containsAnyOk, fun _ h => by cases h⟩) (fun xs h => by
    simp only [decide_eq_true_eq] at h
    exact fn18_ok _ _ h)

theorem L20_ok {ρ : Type} {K0 K1 : Int → Option ρ} {X Y : Option ρ} (hX : ∀ a, K0 a = X) (hY : ∀ b, K1 b = Y) (k : Nat) (s : List UInt8) (hs : s.length < 1000000000) :
    ∀ (fuel p : Nat), s.length < fuel + p → 0 < fuel → L20_0_0 K0 K1 k s fuel (p : Int) = if (s.drop p).any badB = true then X else Y
  | 0, p, _, h => by omega
  | fuel + 1, p, h, _ => by
    rw [L20_0_0]
    unfold T20_0_0
    by_cases hp : p < s.length
    · have hb := List.getElem?_eq_getElem hp
      have e1 : byteAt s p = ((s[p]).toNat : Int) := by simp [byteAt, hp]
      generalize s[p] = b at hb e1
      have e2 : inR (p : Int) s.length := ⟨by omega, by omega⟩
      have e4 : (p : Int) < (s.length : Int) := by omega
      have w : IntKind.wrap .i64 ((p : Int) + 1) = ((p + 1 : Nat) : Int) := wrap_i64 (by omega) (by omega)
      have e5 : badB b = (((b.toNat : Int) == (0 : Int)) || ((b.toNat : Int) == (47 : Int))) := by
        have h0 : ∀ n : Nat, n < 256 → ((b.toNat : Int) == (n : Int)) = (b == UInt8.ofNat n) := by
          intro n hn
          have : (b = UInt8.ofNat n) ↔ ((b.toNat : Int) = (n : Int)) := by
            constructor
            · intro h; subst h; simp; omega
            · intro h; apply UInt8.toNat.inj; simp; omega
          rw [Bool.eq_iff_iff, beq_iff_eq, beq_iff_eq]
          exact this.symm
        unfold badB
        rw [show (0 : Int) = ((0 : Nat) : Int) from rfl, show (47 : Int) = ((47 : Nat) : Int) from rfl, h0 0 (by decide), h0 47 (by decide)]
        rfl
      simp only [e4, decide_true, cond_true, e2, if_true, Int.toNat_natCast, e1, w]
      rw [drop_any hb, e5]
      cases ((b.toNat : Int) == (0 : Int)) with
      | true => simp [hX]
      | false =>
        cases ((b.toNat : Int) == (47 : Int)) with
        | true => simp [hX]
        | false =>
          simp only [cond_false, Bool.false_or]
          exact L20_ok hX hY k s hs fuel (p + 1) (by omega) (by omega)
    · have e4 : ¬ ((p : Int) < (s.length : Int)) := by omega
      simp only [e4, decide_false, cond_false, hY]
      rw [List.drop_of_length_le (by omega)]
      rfl

theorem fn20_ok (k : Nat) (s : List UInt8) (hk : s.length < k) (hs : s.length < 100000000) : fn20 k s = some (isNameS s, ()) := by
  have e2 : decide ((s.length : Int) > (31 : Int)) = !decide (s.length ≤ 31) := by
    by_cases h : s.length ≤ 31 <;> simp [h] <;> omega
  have := L20_ok (K0 := fun (y1 : Int) => (some (false, ()) : Option (DenL [.bool]))) (K1 := fun (y2 : Int) => some (true, ())) (X := some (false, ())) (Y := some (true, ())) (fun _ => rfl) (fun _ => rfl) k s (by omega) k 0 (by omega) (by omega)
  unfold fn20 isNameS
  rw [e2]
  rw [show ((0 : Nat) : Int) = 0 from rfl, List.drop_zero] at this
  rw [this]
  cases (s == ([] : List UInt8)) <;> cases decide (s.length ≤ 31) <;> cases (s == ([46] : List UInt8)) <;> cases (s == ([46, 46] : List UInt8)) <;> cases (s.any badB) <;> rfl

noncomputable def cFitName : CP := { args := [.str], res := [.bool], pre := fun xs => decide (xs.1.length < 100000000), spec := fun xs => (isNameS xs.1, ()) }
theorem fitNameOk : CpOk Tryd.prog gl 20 cFitName := con20 (k := 100000000) (fun _ h => by cases h) (fun xs h => by
    simp only [decide_eq_true_eq] at h
    exact fn20_ok _ _ h h)
end Go.Proofs.YtholnbknimfbhaaDoor

set_option linter.unusedVariables false
set_option linter.unusedSimpArgs false
set_option maxRecDepth 100000
open Go.Proofs
namespace Go.Proofs.YtholnbknimfbhaaDoor
open Go Go.Fy Go.RowKit

noncomputable def P15_0 : SP := { ts := [(.hole (.sl .str)), (.fn 33 []), .un, .un, (.hole (.int .i64)), .un, .un, (.hole (.int .i64)), (.hole (.int .i64)), .un, .un, .un, .un, .un, .un, .un, .un, .un, .un], h := [], df := [] }
noncomputable def P15_1 : SP := { ts := [(.hole (.sl .str)), (.fn 33 []), .un, .un, (.ci .i64 (0)), .un, .un, (.hole (.int .i64)), (.hole (.int .i64)), .un, .un, .un, .un, .un, .un, .un, .un, .un, .un], h := [], df := [] }
noncomputable def T15_0_0 {ρ : Type} (k : Nat) (N0 : Int → Option ρ) (K0 : Int → Option ρ) (K1 : Int → Option ρ) (t0 : List (List UInt8)) (t7 : Int) (t8 : Int) : Option ρ :=
  bif (decide (t8 < t7)) then (
    if (inR t8 (t0).length) then (
      bif (cIsName.pre ((List.getD t0 (t8).toNat ([] : List UInt8)), ())) then (
        bif (!(isNameS (List.getD t0 (t8).toNat ([] : List UInt8)))) then (
          K0 t8)
        else (
          N0 (IntKind.wrap .i64 (t8 + (1 : Int))))) else none) else none)
  else (
    K1 t8)
noncomputable def L15_0_0 {ρ : Type} (K0 : Int → Option ρ) (K1 : Int → Option ρ) (k : Nat) (t0 : List (List UInt8)) (t7 : Int) : Nat → Int → Option ρ
  | 0, _ => none
  | n + 1, t8 => T15_0_0 k (L15_0_0 K0 K1 k t0 t7 n) K0 K1 t0 t7 t8
noncomputable def en15_0 : LE := { code := (subC [1, 0, 1, 0, 0] (bd Tryd.f51)), inR := false, pat := P15_1, hs := [.d (.sl .str), .d (.int .i64), .d (.int .i64)], need := 2, run := fun ρ k v K => L15_0_0 (fun (z0 : Int) => K .ret (fillH P15_0 [.d (.sl .str), .d (.int .i64), .d (.int .i64), .d (.int .i64)] (v.1, z0, v.2.1, z0, ()))) (fun (z0 : Int) => K (.exit 0) (fillH P15_0 [.d (.sl .str), .d (.int .i64), .d (.int .i64), .d (.int .i64)] (v.1, (0 : Int), v.2.1, z0, ()))) k v.1 v.2.1 k v.2.2.1 }
noncomputable def lp15 : List (Nat × Nat × LE) := [(51, 2, en15_0)]
noncomputable def cp15s : List (Nat × CP) := [(18, cIsName), (32, cSplit)]
noncomputable def dr15 : List (Nat × List Nat) := []
noncomputable def tb15 : Tb := mkT lp15 cp15s
noncomputable def e15 : Env := mkE tys gl fns dr15 [(51, [(2, [0, 1, 4, 7, 8])])] cp15s
theorem st15_0_0 {ρ : Type} (d k n : Nat) (K : Ex → St → Option ρ) (t0 : List (List UInt8)) (t7 : Int) (t8 : Int) : evLoop (en15_0.F tb15 e15 51 k (d + en15_0.need)) (en15_0.gc e15 51) (n + 1) (fillH P15_1 [.d (.sl .str), .d (.int .i64), .d (.int .i64)] (t0, t7, t8, ())) (en15_0.KX e15 51 K) =
    T15_0_0 k (fun (t8' : Int) => evLoop (en15_0.F tb15 e15 51 k (d + en15_0.need)) (en15_0.gc e15 51) n (fillH P15_1 [.d (.sl .str), .d (.int .i64), .d (.int .i64)] (t0, t7, t8', ())) (en15_0.KX e15 51 K)) (fun (z0 : Int) => K .ret (fillH P15_0 [.d (.sl .str), .d (.int .i64), .d (.int .i64), .d (.int .i64)] (t0, z0, t7, z0, ()))) (fun (z0 : Int) => K (.exit 0) (fillH P15_0 [.d (.sl .str), .d (.int .i64), .d (.int .i64), .d (.int .i64)] (t0, (0 : Int), t7, z0, ()))) t0 t7 t8 := by kernel_rfl
theorem go15_0_0 {ρ : Type} (d k : Nat) (K : Ex → St → Option ρ) (t0 : List (List UInt8)) (t7 : Int) : ∀ (n : Nat) (t8 : Int), evLoop (en15_0.F tb15 e15 51 k (d + en15_0.need)) (en15_0.gc e15 51) n (fillH P15_1 [.d (.sl .str), .d (.int .i64), .d (.int .i64)] (t0, t7, t8, ())) (en15_0.KX e15 51 K) = L15_0_0 (fun (z0 : Int) => K .ret (fillH P15_0 [.d (.sl .str), .d (.int .i64), .d (.int .i64), .d (.int .i64)] (t0, z0, t7, z0, ()))) (fun (z0 : Int) => K (.exit 0) (fillH P15_0 [.d (.sl .str), .d (.int .i64), .d (.int .i64), .d (.int .i64)] (t0, (0 : Int), t7, z0, ()))) k t0 t7 n t8 := by
  intro n
  induction n with
  | zero => intros; rfl
  | succ n ih =>
    intro t8
    rw [st15_0_0 d k n K t0 t7 t8]
    simp only [ih]
    rfl
theorem ok15_0 (k : Nat) : en15_0.Ok tb15 e15 k 51 := fun ρ d v K => (go15_0_0 d k K v.1 v.2.1 k v.2.2.1).symm
noncomputable def fn15 (k : Nat) (x0 : List UInt8) : Option (DenL [.bool]) :=
  bif (decide (((x0).length : Int) ≥ (1 : Int))) then (
    if (0 ≤ (0 : Int) ∧ (0 : Int) ≤ (1 : Int) ∧ (1 : Int) ≤ ((x0).length : Int)) then (
      bif (!((cutL x0 0 1) == ([47] : List UInt8))) then (
        bif (x0 == ([47] : List UInt8)) then (
          some ((x0 == ([47] : List UInt8)), ()))
        else (
          some ((x0 == ([47] : List UInt8)), ())))
      else (
        if (0 ≤ (1 : Int) ∧ (1 : Int) ≤ ((x0).length : Int) ∧ ((x0).length : Int) ≤ ((x0).length : Int)) then (
          bif (x0 == ([47] : List UInt8)) then (
            some ((x0 == ([47] : List UInt8)), ()))
          else (
            bif (decide (((x0).length : Int) > (255 : Int))) then (
              some ((x0 == ([47] : List UInt8)), ()))
            else (
              bif (cSplit.pre ((cutL x0 1 (x0).length), ([47] : List UInt8), ())) then (
                L15_0_0 (fun (y1 : Int) =>
                  some ((!(decide (y1 ≥ (0 : Int)))), ())) (fun (y2 : Int) =>
                  some (true, ())) k (spl 47 (cutL x0 1 (x0).length)) (((spl 47 (cutL x0 1 (x0).length))).length : Int) k (0 : Int)) else none))) else none)) else none)
  else (
    bif (x0 == ([47] : List UInt8)) then (
      some ((x0 == ([47] : List UInt8)), ()))
    else (
      some ((x0 == ([47] : List UInt8)), ())))
theorem ev15 (k : Nat) (x0 : List UInt8) : (orcL tb15 e15 k 5).call 15 (ofRes [.str] (x0, ())) [] (KD [.bool]) = fn15 k x0 := by kernel_rfl
theorem con15 {k : Nat} {pre : DenL [.str] → Bool} {spec : DenL [.str] → DenL [.bool]} (hC : ∀ p ∈ cp15s, CpOk Tryd.prog gl p.1 p.2) (hp : ∀ xs, pre xs = true → fn15 k xs.1 = some (spec xs)) : CpOk Tryd.prog gl 15 { args := [.str], res := [.bool], pre, spec } :=
  con_of (lps := lp15) (drl := dr15) (kpl := [(51, [(2, [0, 1, 4, 7, 8])])]) (k := k) seatOk hC (by
    unfold lp15
    simp only [List.forall_mem_cons]
    exact ⟨ok15_0 k, fun _ h => by cases h⟩) (fun p h => by cases h) (by kernel_rfl) 5 (fun xs hx => (ev15 k xs.1).trans (hp xs hx))
end Go.Proofs.YtholnbknimfbhaaDoor

set_option linter.unusedVariables false
set_option linter.unusedSimpArgs false
open Go.Proofs
namespace Go.Proofs.YtholnbknimfbhaaDoor
open Go Go.Fy Go.RowKit

def isPathS (s : List UInt8) : Bool := (s == [47]) || ((s.head? == some 47) && (decide (s.length ≤ 255) && (spl 47 s.tail).all isNameS))

theorem getD_eq {α : Type} {l : List α} {i : Nat} {x d : α} (h : l[i]? = some x) : l.getD i d = x := by simp [List.getD, h]
theorem drop_all {α : Type} {l : List α} {f : α → Bool} {p : Nat} {b : α} (h : l[p]? = some b) : (l.drop p).all f = (f b && (l.drop (p + 1)).all f) := by
  have hp := (List.getElem?_eq_some_iff.1 h)
  rw [List.drop_eq_getElem_cons hp.1, List.all_cons, hp.2]
theorem spl_mem (c : UInt8) : ∀ (l x : List UInt8), x ∈ spl c l → x.length ≤ l.length
  | [], x, h => by simp [spl] at h; simp [h]
  | b :: l, x, h => by
    have ih := spl_mem c l
    unfold spl at h
    by_cases hb : b = c
    · simp only [hb, if_true, List.mem_cons] at h
      rcases h with h | h
      · simp [h]
      · have := ih x h; simp; omega
    · simp only [hb, if_false] at h
      cases hs : spl c l with
      | nil => exact absurd hs (spl_ne c l)
      | cons y ys =>
        rw [hs] at h
        simp at h
        rcases h with h | h
        · have := ih y (by rw [hs]; simp); subst h; simp; omega
        · have := ih x (by rw [hs]; simp [h]); simp; omega

theorem L15_ok {ρ : Type} {K0 K1 : Int → Option ρ} {X Y : Option ρ} (hX : ∀ a : Nat, K0 (a : Int) = X) (hY : ∀ b, K1 b = Y) (k : Nat) (l : List (List UInt8)) (hm : ∀ x ∈ l, x.length < 100000000) (hs : l.length < 1000000000) :
    ∀ (fuel p : Nat), l.length < fuel + p → 0 < fuel → L15_0_0 K0 K1 k l (l.length : Int) fuel (p : Int) = if (l.drop p).all isNameS = true then Y else X
  | 0, p, _, h => by omega
  | fuel + 1, p, h, _ => by
    rw [L15_0_0]
    unfold T15_0_0
    by_cases hp : p < l.length
    · have hb := List.getElem?_eq_getElem hp
      have hx := hm _ (List.getElem_mem hp)
      generalize l[p] = b at hb hx
      have e2 : inR (p : Int) l.length := ⟨by omega, by omega⟩
      have e4 : (p : Int) < (l.length : Int) := by omega
      have w : IntKind.wrap .i64 ((p : Int) + 1) = ((p + 1 : Nat) : Int) := wrap_i64 (by omega) (by omega)
      have e5 : cIsName.pre (b, ()) = true := by simp [cIsName, hx]
      simp only [e4, decide_true, cond_true, e2, if_true, Int.toNat_natCast, w, getD_eq hb, e5]
      rw [drop_all hb]
      cases isNameS b with
      | false => simp [hX]
      | true =>
        simp only [Bool.not_true, cond_false, Bool.true_and]
        exact L15_ok hX hY k l hm hs fuel (p + 1) (by omega) (by omega)
    · have e4 : ¬ ((p : Int) < (l.length : Int)) := by omega
      simp only [e4, decide_false, cond_false, hY]
      rw [List.drop_of_length_le (by omega)]
      rfl

theorem cutL_one (b : UInt8) (s : List UInt8) : cutL (b :: s) 0 1 = [b] := by simp [cutL]

theorem fn15_ok (k : Nat) (s : List UInt8) (hk : 1000 ≤ k) (hs : s.length < 100000000) : fn15 k s = some (isPathS s, ()) := by
  unfold fn15 isPathS
  cases s with
  | nil => rfl
  | cons b s =>
    have e1 : decide (((b :: s).length : Int) ≥ (1 : Int)) = true := decide_eq_true (by simp; omega)
    have e2 : (0 ≤ (0 : Int) ∧ (0 : Int) ≤ (1 : Int) ∧ (1 : Int) ≤ ((b :: s).length : Int)) := ⟨by omega, by omega, by simp; omega⟩
    have e3 : (0 ≤ (1 : Int) ∧ (1 : Int) ≤ ((b :: s).length : Int) ∧ ((b :: s).length : Int) ≤ ((b :: s).length : Int)) := ⟨by omega, by simp; omega, by omega⟩
    rw [e1, cond_true, if_pos e2, cutL_one, if_pos e3, cutL_all, List.head?_cons, List.tail_cons]
    have e4 : (([b] : List UInt8) == [47]) = (some b == some 47) := by rw [Bool.eq_iff_iff]; simp
    rw [e4]
    have e5 : decide (((b :: s).length : Int) > (255 : Int)) = !decide ((b :: s).length ≤ 255) := by
      by_cases h : (b :: s).length ≤ 255
      · rw [decide_eq_true h, decide_eq_false (by omega)]; rfl
      · rw [decide_eq_false h, decide_eq_true (by omega)]; rfl
    rw [e5]
    have e6 : (b :: s).drop 1 = s := rfl
    rw [e6]
    have e7 : cSplit.pre (s, ([47] : List UInt8), ()) = true := by
      have : s.length < 100000000 := by simp at hs; omega
      simp [cSplit, this]
    rw [e7]
    by_cases h : (b :: s).length ≤ 255
    · have hl : s.length ≤ 254 := by simp at h; omega
      have hc : s.count 47 ≤ s.length := List.count_le_length
      have := L15_ok (K0 := fun (y1 : Int) => (some ((!(decide (y1 ≥ (0 : Int)))), ()) : Option (DenL [.bool]))) (K1 := fun (y2 : Int) => some (true, ())) (X := some (false, ())) (Y := some (true, ()))
        (fun a => by have : (a : Int) ≥ 0 := by omega
                     simp [this]) (fun _ => rfl) k (spl 47 s) (fun x hx => by have := spl_mem 47 s x hx; omega) (by rw [spl_len]; omega) k 0 (by rw [spl_len]; omega) (by omega)
      rw [show ((0 : Nat) : Int) = 0 from rfl, List.drop_zero] at this
      rw [this, decide_eq_true h]
      cases (some b == some (47 : UInt8)) <;> cases (b :: s == [47]) <;> cases ((spl 47 s).all isNameS) <;> rfl
    · rw [decide_eq_false h]
      cases (some b == some (47 : UInt8)) <;> cases (b :: s == [47]) <;> rfl

noncomputable def cIsPath : CP := { args := [.str], res := [.bool], pre := fun xs => decide (xs.1.length < 100000000), spec := fun xs => (isPathS xs.1, ()) }
theorem isPathOk : CpOk Tryd.prog gl 15 cIsPath := con15 (k := 100000000) (by
    unfold cp15s
    simp only [List.forall_mem_cons]
    exact ⟨isNameOk, splitOk, fun _ h => by cases h⟩) (fun xs h => by
    simp only [decide_eq_true_eq] at h
    exact fn15_ok _ _ (by omega) h)
end Go.Proofs.YtholnbknimfbhaaDoor

set_option linter.unusedVariables false
set_option linter.unusedSimpArgs false
set_option maxRecDepth 100000
open Go.Proofs
namespace Go.Proofs.YtholnbknimfbhaaDoor
open Go Go.Fy Go.RowKit

noncomputable def P7_0 : SP := { ts := [(.hole .str), .un, (.hole .bool), (.hole (.int .i64)), (.hole (.int .i64)), .un, .un, .un, .un, .un, .un, .un, .un, .un, .un, .un, .un, .un, .un, .un, .un, .un, .un, .un, .un, .un, .un, .un, .un, .un, .un, .un, .un, .un, .un, .un, .un, .un, .un, .un, .un, .un, .un], h := [], df := [] }
noncomputable def P7_1 : SP := { ts := [(.hole .str), .un, (.cb false), (.hole (.int .i64)), (.hole (.int .i64)), .un, .un, .un, .un, .un, .un, .un, .un, .un, .un, .un, .un, .un, .un, .un, .un, .un, .un, .un, .un, .un, .un, .un, .un, .un, .un, .un, .un, .un, .un, .un, .un, .un, .un, .un, .un, .un, .un], h := [], df := [] }
noncomputable def T7_0_0 {ρ : Type} (k : Nat) (N0 : Int → Int → Option ρ) (K0 : Int → Int → Option ρ) (K1 : Int → Int → Option ρ) (t0 : List UInt8) (t3 : Int) (t4 : Int) : Option ρ :=
  bif (decide (t4 ≤ ((t0).length : Int))) then (
    bif (decide (t4 < ((t0).length : Int))) then (
      if (inR t4 (t0).length) then (
        bif ((byteAt t0 (t4).toNat) != (47 : Int)) then (
          N0 t3 (IntKind.wrap .i64 (t4 + (1 : Int))))
        else (
          if (0 ≤ t3 ∧ t3 ≤ t4 ∧ t4 ≤ ((t0).length : Int)) then (
            bif (cFitName.pre ((cutL t0 (t3).toNat (t4).toNat), ())) then (
              bif (!(isNameS (cutL t0 (t3).toNat (t4).toNat))) then (
                K0 t3 t4)
              else (
                N0 (IntKind.wrap .i64 (t4 + (1 : Int))) (IntKind.wrap .i64 (t4 + (1 : Int))))) else none) else none)) else none)
    else (
      if (0 ≤ t3 ∧ t3 ≤ t4 ∧ t4 ≤ ((t0).length : Int)) then (
        bif (cFitName.pre ((cutL t0 (t3).toNat (t4).toNat), ())) then (
          bif (!(isNameS (cutL t0 (t3).toNat (t4).toNat))) then (
            K0 t3 t4)
          else (
            N0 (IntKind.wrap .i64 (t4 + (1 : Int))) (IntKind.wrap .i64 (t4 + (1 : Int))))) else none) else none))
  else (
    K1 t3 t4)
noncomputable def L7_0_0 {ρ : Type} (K0 : Int → Int → Option ρ) (K1 : Int → Int → Option ρ) (k : Nat) (t0 : List UInt8) : Nat → Int → Int → Option ρ
  | 0, _, _ => none
  | n + 1, t3, t4 => T7_0_0 k (L7_0_0 K0 K1 k t0 n) K0 K1 t0 t3 t4
noncomputable def en7_0 : LE := { code := (subC [1, 1, 1, 1, 0, 1, 0, 0] (bd Tryd.f7)), inR := false, pat := P7_1, hs := [.d .str, .d (.int .i64), .d (.int .i64)], need := 1, run := fun ρ k v K => L7_0_0 (fun (z0 : Int) (z1 : Int) => K .ret (fillH P7_0 [.d .str, .d .bool, .d (.int .i64), .d (.int .i64)] (v.1, false, z0, z1, ()))) (fun (z0 : Int) (z1 : Int) => K (.exit 0) (fillH P7_0 [.d .str, .d .bool, .d (.int .i64), .d (.int .i64)] (v.1, false, z0, z1, ()))) k v.1 k v.2.1 v.2.2.1 }
noncomputable def lp7 : List (Nat × Nat × LE) := [(7, 7, en7_0)]
noncomputable def cp7s : List (Nat × CP) := [(20, cFitName)]
noncomputable def dr7 : List (Nat × List Nat) := []
noncomputable def tb7 : Tb := mkT lp7 cp7s
noncomputable def e7 : Env := mkE tys gl fns dr7 [(7, [(7, [0, 2, 3, 4])])] cp7s
theorem st7_0_0 {ρ : Type} (d k n : Nat) (K : Ex → St → Option ρ) (t0 : List UInt8) (t3 : Int) (t4 : Int) : evLoop (en7_0.F tb7 e7 7 k (d + en7_0.need)) (en7_0.gc e7 7) (n + 1) (fillH P7_1 [.d .str, .d (.int .i64), .d (.int .i64)] (t0, t3, t4, ())) (en7_0.KX e7 7 K) =
    T7_0_0 k (fun (t3' : Int) (t4' : Int) => evLoop (en7_0.F tb7 e7 7 k (d + en7_0.need)) (en7_0.gc e7 7) n (fillH P7_1 [.d .str, .d (.int .i64), .d (.int .i64)] (t0, t3', t4', ())) (en7_0.KX e7 7 K)) (fun (z0 : Int) (z1 : Int) => K .ret (fillH P7_0 [.d .str, .d .bool, .d (.int .i64), .d (.int .i64)] (t0, false, z0, z1, ()))) (fun (z0 : Int) (z1 : Int) => K (.exit 0) (fillH P7_0 [.d .str, .d .bool, .d (.int .i64), .d (.int .i64)] (t0, false, z0, z1, ()))) t0 t3 t4 := by kernel_rfl
theorem go7_0_0 {ρ : Type} (d k : Nat) (K : Ex → St → Option ρ) (t0 : List UInt8) : ∀ (n : Nat) (t3 : Int) (t4 : Int), evLoop (en7_0.F tb7 e7 7 k (d + en7_0.need)) (en7_0.gc e7 7) n (fillH P7_1 [.d .str, .d (.int .i64), .d (.int .i64)] (t0, t3, t4, ())) (en7_0.KX e7 7 K) = L7_0_0 (fun (z0 : Int) (z1 : Int) => K .ret (fillH P7_0 [.d .str, .d .bool, .d (.int .i64), .d (.int .i64)] (t0, false, z0, z1, ()))) (fun (z0 : Int) (z1 : Int) => K (.exit 0) (fillH P7_0 [.d .str, .d .bool, .d (.int .i64), .d (.int .i64)] (t0, false, z0, z1, ()))) k t0 n t3 t4 := by
  intro n
  induction n with
  | zero => intros; rfl
  | succ n ih =>
    intro t3 t4
    rw [st7_0_0 d k n K t0 t3 t4]
    simp only [ih]
    rfl
theorem ok7_0 (k : Nat) : en7_0.Ok tb7 e7 k 7 := fun ρ d v K => (go7_0_0 d k K v.1 k v.2.1 v.2.2.1).symm
noncomputable def fn7 (k : Nat) (x0 : List UInt8) : Option (DenL [.bool]) :=
  bif (x0 == ([47] : List UInt8)) then (
    some (true, ()))
  else (
    bif (x0 == ([] : List UInt8)) then (
      some (false, ()))
    else (
      bif (decide (((x0).length : Int) > (255 : Int))) then (
        some (false, ()))
      else (
        if (inR (0 : Int) (x0).length) then (
          bif ((byteAt x0 0) != (47 : Int)) then (
            some (false, ()))
          else (
            L7_0_0 (fun (y1 : Int) (y2 : Int) =>
              some (false, ())) (fun (y3 : Int) (y4 : Int) =>
              some (true, ())) k x0 k (1 : Int) (1 : Int))) else none)))
theorem ev7 (k : Nat) (x0 : List UInt8) : (orcL tb7 e7 k 2).call 7 (ofRes [.str] (x0, ())) [] (KD [.bool]) = fn7 k x0 := by kernel_rfl
theorem con7 {k : Nat} {pre : DenL [.str] → Bool} {spec : DenL [.str] → DenL [.bool]} (hC : ∀ p ∈ cp7s, CpOk Tryd.prog gl p.1 p.2) (hp : ∀ xs, pre xs = true → fn7 k xs.1 = some (spec xs)) : CpOk Tryd.prog gl 7 { args := [.str], res := [.bool], pre, spec } :=
  con_of (lps := lp7) (drl := dr7) (kpl := [(7, [(7, [0, 2, 3, 4])])]) (k := k) seatOk hC (by
    unfold lp7
    simp only [List.forall_mem_cons]
    exact ⟨ok7_0 k, fun _ h => by cases h⟩) (fun p h => by cases h) (by kernel_rfl) 2 (fun xs hx => (ev7 k xs.1).trans (hp xs hx))
end Go.Proofs.YtholnbknimfbhaaDoor

set_option linter.unusedVariables false
set_option linter.unusedSimpArgs false
open Go.Proofs
namespace Go.Proofs.YtholnbknimfbhaaDoor
open Go Go.Fy Go.RowKit

theorem spl_no {c : UInt8} : ∀ {u : List UInt8}, c ∉ u → spl c u = [u]
  | [], _ => rfl
  | b :: u, h => by
    simp only [List.mem_cons, not_or] at h
    rw [spl, if_neg (fun e => h.1 e.symm), spl_no h.2]
    rfl
theorem spl_at {c : UInt8} (v : List UInt8) : ∀ {u : List UInt8}, c ∉ u → spl c (u ++ c :: v) = u :: spl c v
  | [], _ => by simp [spl]
  | b :: u, h => by
    simp only [List.mem_cons, not_or] at h
    rw [List.cons_append, spl, if_neg (fun e => h.1 e.symm), spl_at v h.2]
    rfl
theorem drop_cutL (s : List UInt8) {a i : Nat} (h : a ≤ i) : s.drop a = cutL s a i ++ s.drop i := by
  have h2 : (s.take i ++ s.drop i).drop a = cutL s a i ++ s.drop i := by
    by_cases hi : i ≤ s.length
    · rw [List.drop_append_of_le_length (by simp; omega)]; rfl
    · unfold cutL
      rw [List.take_of_length_le (by omega), List.drop_of_length_le (l := s) (i := i) (by omega), List.append_nil, List.append_nil]
  rw [List.take_append_drop] at h2
  exact h2
theorem cutL_succ {s : List UInt8} {a i : Nat} {b : UInt8} (h : a ≤ i) (hb : s[i]? = some b) : cutL s a (i + 1) = cutL s a i ++ [b] := by
  have hi := (List.getElem?_eq_some_iff.1 hb).1
  unfold cutL
  rw [List.take_add_one, hb, List.drop_append_of_le_length (by simp; omega)]
  rfl
theorem byte_eq (b : UInt8) {n : Nat} (hn : n < 256) : ((b.toNat : Int) == (n : Int)) = (b == UInt8.ofNat n) := by
  have : (b = UInt8.ofNat n) ↔ ((b.toNat : Int) = (n : Int)) := by
    constructor
    · intro h; subst h; simp; omega
    · intro h; apply UInt8.toNat.inj; simp; omega
  rw [Bool.eq_iff_iff, beq_iff_eq, beq_iff_eq]
  exact this.symm
theorem byte47 (b : UInt8) : ((b.toNat : Int) == (47 : Int)) = (b == 47) := byte_eq b (n := 47) (by decide)

theorem L7_ok {ρ : Type} {K0 K1 : Int → Int → Option ρ} {X Y : Option ρ} (hX : ∀ a b, K0 a b = X) (hY : ∀ a b, K1 a b = Y) (k : Nat) (s : List UInt8) (hs : s.length < 100000000) :
    ∀ (fuel a i : Nat), s.length + 1 < fuel + i → a ≤ i → i ≤ s.length → (47 : UInt8) ∉ cutL s a i → L7_0_0 K0 K1 k s fuel (a : Int) (i : Int) = if (spl 47 (s.drop a)).all isNameS = true then Y else X
  | 0, a, i, h, _, _, _ => by omega
  | fuel + 1, a, i, h, hai, hi, hc => by
    rw [L7_0_0]
    unfold T7_0_0
    have e1 : (i : Int) ≤ (s.length : Int) := by omega
    have w : IntKind.wrap .i64 ((i : Int) + 1) = ((i + 1 : Nat) : Int) := wrap_i64 (by omega) (by omega)
    have e40 : 0 ≤ (a : Int) := by omega
    have e41 : (a : Int) ≤ (i : Int) := by omega
    have e5 : cFitName.pre (cutL s a i, ()) = true := by
      have : (cutL s a i).length < 100000000 := by simp [cutL]; omega
      simp [cFitName, this]
    simp only [e1, decide_true, cond_true, w, e40, e41, and_self, if_true, Int.toNat_natCast, e5]
    by_cases hp : i < s.length
    · have hb := List.getElem?_eq_getElem hp
      have eb : byteAt s i = ((s[i]).toNat : Int) := by simp [byteAt, hp]
      generalize s[i] = b at hb eb
      have e2 : inR (i : Int) s.length := ⟨by omega, by omega⟩
      have e3 : (i : Int) < (s.length : Int) := by omega
      simp only [e3, decide_true, cond_true, if_pos e2, eb, bne, byte47]
      cases hq : b == 47 with
      | false =>
        simp only [Bool.not_false, cond_true]
        have hb47 : b ≠ 47 := by simpa using hq
        exact L7_ok hX hY k s hs fuel a (i + 1) (by omega) (by omega) (by omega) (by
          rw [cutL_succ hai hb]
          simp only [List.mem_append, List.mem_singleton, not_or]
          exact ⟨hc, fun e => hb47 e.symm⟩)
      | true =>
        have hb47 : b = 47 := by simpa using hq
        subst hb47
        simp only [Bool.not_true, cond_false]
        have e6 : spl 47 (s.drop a) = cutL s a i :: spl 47 (s.drop (i + 1)) := by
          rw [drop_cutL s hai, List.drop_eq_getElem_cons hp, (List.getElem?_eq_some_iff.1 hb).2, spl_at _ hc]
        rw [e6, List.all_cons]
        cases isNameS (cutL s a i) with
        | false => simp [hX]
        | true =>
          simp only [Bool.not_true, cond_false, Bool.true_and]
          exact L7_ok hX hY k s hs fuel (i + 1) (i + 1) (by omega) (by omega) (by omega) (by simp [cutL])
    · have hil : i = s.length := by omega
      subst hil
      have e3 : ¬ ((s.length : Int) < (s.length : Int)) := by omega
      simp only [e3, decide_false, cond_false]
      rw [cutL_all] at hc ⊢
      rw [spl_no hc, List.all_cons, List.all_nil, Bool.and_true]
      cases isNameS (s.drop a) with
      | false => simp [hX]
      | true =>
        simp only [Bool.not_true, cond_false, if_true]
        obtain ⟨f, rfl⟩ : ∃ f, fuel = f + 1 := ⟨fuel - 1, by omega⟩
        rw [L7_0_0]
        unfold T7_0_0
        have e6 : ¬ (((s.length + 1 : Nat) : Int) ≤ (s.length : Int)) := by omega
        simp only [e6, decide_false, cond_false, hY]

theorem fn7_ok (k : Nat) (s : List UInt8) (hk : 1000 ≤ k) (hs : s.length < 100000000) : fn7 k s = some (isPathS s, ()) := by
  unfold fn7 isPathS
  cases s with
  | nil => rfl
  | cons b s =>
    have e2 : inR (0 : Int) (b :: s).length := ⟨by omega, by simp⟩
    have e3 : byteAt (b :: s) 0 = (b.toNat : Int) := by simp [byteAt]
    have e5 : decide (((b :: s).length : Int) > (255 : Int)) = !decide ((b :: s).length ≤ 255) := by
      by_cases h : (b :: s).length ≤ 255
      · rw [decide_eq_true h, decide_eq_false (by omega)]; rfl
      · rw [decide_eq_false h, decide_eq_true (by omega)]; rfl
    rw [if_pos e2, e3, e5, List.head?_cons, List.tail_cons]
    have e6 : ((b.toNat : Int) != (47 : Int)) = !(some b == some 47) := by
      rw [bne, byte47]; rfl
    rw [e6]
    have e7 : (b :: s == ([] : List UInt8)) = false := rfl
    rw [e7]
    by_cases h : (b :: s).length ≤ 255
    · have := L7_ok (K0 := fun (y1 : Int) (y2 : Int) => (some (false, ()) : Option (DenL [.bool]))) (K1 := fun (y3 : Int) (y4 : Int) => some (true, ())) (X := some (false, ())) (Y := some (true, ()))
        (fun _ _ => rfl) (fun _ _ => rfl) k (b :: s) hs k 1 1 (by omega) (by omega) (by simp) (by simp [cutL])
      rw [show ((1 : Nat) : Int) = 1 from rfl] at this
      rw [this, decide_eq_true h]
      rw [show (b :: s).drop 1 = s from rfl]
      cases (some b == some (47 : UInt8)) <;> cases (b :: s == [47]) <;> cases ((spl 47 s).all isNameS) <;> rfl
    · rw [decide_eq_false h]
      cases (some b == some (47 : UInt8)) <;> cases (b :: s == [47]) <;> rfl

noncomputable def cPathR : CP := { args := [.str], res := [.bool], pre := fun xs => decide (xs.1.length < 100000000), spec := fun xs => (isPathS xs.1, ()) }
theorem pathROk : CpOk Tryd.prog gl 7 cPathR := con7 (k := 100000000) (by
    unfold cp7s
    simp only [List.forall_mem_cons]
    exact ⟨fitNameOk, fun _ h => by cases h⟩) (fun xs h => by
    simp only [decide_eq_true_eq] at h
    exact fn7_ok _ _ (by omega) h)
end Go.Proofs.YtholnbknimfbhaaDoor

