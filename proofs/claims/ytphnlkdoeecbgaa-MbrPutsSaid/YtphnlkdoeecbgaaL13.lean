import Derived.Test.YtphnlkdoeecbgaaC13
import Derived.Test.YtphnlkdoeecbgaaAM30
set_option linter.unusedVariables false
set_option linter.unusedSimpArgs false
/-! The functions of layers 1 and 13 that the statements reach, over the executor. -/
namespace Go.Proofs.Ytphnlkdoeecbgaa.L13
open Go Go.AM Go.Proofs.Ytphnlkdoeecbgaa.AMC
def tabF : FuncId → Option AEntry := fun f => (tab.set 35 (.prim primTrue)).get f
abbrev En (L d : Nat) : Env := ⟨tabF, L, d, noRound⟩
theorem tab35 : tabF 35 = some (.prim primTrue) := by rfl
theorem go35 (L d : Nat) (h : AHeap) : (En L (d + 1)).go 35 [] h = some (.bool true, h) := by
  simp only [Env.go, callFR, tab35, primTrue]

set_option maxRecDepth 10000
theorem in_spec (L d : Nat) (a : Option Addr) (len cap : Nat) (at_ n : Int) (h : AHeap) (hl : (len : Int) ≤ 9223372036854775807) :
    (En L (d + 1)).go 94 [.slice a len cap, .int .i64 at_, .int .i64 n] h = some (.bool (decide (at_ ≥ 0 ∧ n ≥ 0 ∧ at_ ≤ len ∧ n ≤ len - at_)), h) := by
  refine go_of (show tabF 94 = some (.code a94) by rfl) rfl ?_
  unfold a94
  by_cases h1 : 0 ≤ at_
  · by_cases h2 : 0 ≤ n
    · by_cases h3 : at_ ≤ len
      · simp (disch := omega) [h1, h2, h3, wrapF_i64]
      · simp [h1, h2, h3]
    · simp [h1, h2]
  · simp [h1]
theorem rin_spec (L d : Nat) (a : Option Addr) (len cap : Nat) (at_ n : Int) (h : AHeap) (hl : (len : Int) ≤ 9223372036854775807) :
    (En L (d + 1)).go 30 [.slice a len cap, .int .i64 at_, .int .i64 n] h = some (.bool (decide (at_ ≥ 0 ∧ n ≥ 0 ∧ at_ ≤ len ∧ n ≤ len - at_)), h) := by
  refine go_of (show tabF 30 = some (.code a30) by rfl) rfl ?_
  unfold a30
  by_cases h1 : 0 ≤ at_
  · by_cases h2 : 0 ≤ n
    · by_cases h3 : at_ ≤ len
      · simp (disch := omega) [h1, h2, h3, wrapF_i64]
      · simp [h1, h2, h3]
    · simp [h1, h2]
  · simp [h1]
/-- Four bytes, the lowest first. -/
def le4 (l : List Int) (i : Int) : Int := rdI l i + 256 * rdI l (i + 1) + 65536 * rdI l (i + 2) + 16777216 * rdI l (i + 3)
theorem le4_bd {l : List Int} (hb : Byt l) (i : Int) : 0 ≤ le4 l i ∧ le4 l i < 4294967296 := by
  have b0 := hb.rd i
  have b1 := hb.rd (i + 1)
  have b2 := hb.rd (i + 2)
  have b3 := hb.rd (i + 3)
  unfold le4; omega
theorem little_yes (L d : Nat) (m off cap : Nat) (at_ : Int) (l : List Int) (len : Nat) (hlen : l.length = len) (h : AHeap) (hl : l.length < 4611686018427387904) (hr : RowI h .u8 m off l) (hb : Byt l) (ha0 : 0 ≤ at_) (ha : at_ + 4 ≤ l.length) :
    (En (L + 10) (d + 2)).go 89 [.slice (some ⟨m, off, none⟩) len cap, .int .i64 at_, .int .i64 4] h = some (.tuple #[.int .u32 (le4 l at_), .bool true], h) := by
  refine go_of (show tabF 89 = some (.code a89) by rfl) rfl ?_
  unfold a89
  have hin := in_spec (L + 10) d (some ⟨m, off, none⟩) len cap at_ 4 h (by omega)
  rw [decide_eq_true (by omega)] at hin
  have b0 := hb.rd at_
  have b1 := hb.rd (at_ + 1)
  have b2 := hb.rd (at_ + 2)
  have b3 := hb.rd (at_ + 3)
  simp (disch := omega) [hin, W_loop_all, WL_succ, wrapF_i64, wrapF_u32, aIndexSl_ok, shlF_wrap, or8_u32, or0_u32, hr.rd]
  unfold le4; omega
theorem u32_yes (L d : Nat) (m off cap : Nat) (at_ : Int) (l : List Int) (len : Nat) (hlen : l.length = len) (h : AHeap) (hl : l.length < 4611686018427387904) (hr : RowI h .u8 m off l) (hb : Byt l) (ha0 : 0 ≤ at_) (ha : at_ + 4 ≤ l.length) :
    (En (L + 10) (d + 3)).go 54 [.slice (some ⟨m, off, none⟩) len cap, .int .i64 at_] h = some (.tuple #[.int .u32 (le4 l at_), .bool true], h) := by
  refine go_of (show tabF 54 = some (.code a54) by rfl) rfl ?_
  unfold a54
  simp (disch := omega) [little_yes L d m off cap at_ l len hlen h hl hr hb ha0 ha]
theorem row_spec (L d : Nat) (i : Int) (h : AHeap) (h0 : 0 ≤ i) (h1 : i < 1000) : (En L (d + 1)).go 65 [.int .i64 i] h = some (.int .i64 (446 + 16 * i), h) := by
  refine go_of (show tabF 65 = some (.code a65) by rfl) rfl ?_
  unfold a65
  simp (disch := omega) [wrapF_i64]
theorem num4 (L d : Nat) (m off cap : Nat) (at_ : Int) (l : List Int) (len : Nat) (hlen : l.length = len) (h : AHeap) (hl : l.length < 4611686018427387904) (hr : RowI h .u8 m off l) (hb : Byt l) (ha0 : 0 ≤ at_) (ha : at_ + 4 ≤ l.length) :
    (En (L + 10) (d + 2)).go 91 [.slice (some ⟨m, off, none⟩) len cap, .int .i64 at_, .int .i64 4] h = some (.tuple #[.int .u64 (le4 l at_), .bool true], h) := by
  refine go_of (show tabF 91 = some (.code a91) by rfl) rfl ?_
  unfold a91
  have hin := rin_spec (L + 10) d (some ⟨m, off, none⟩) len cap at_ 4 h (by omega)
  rw [decide_eq_true (by omega)] at hin
  have b0 := hb.rd at_
  have b1 := hb.rd (at_ + 1)
  have b2 := hb.rd (at_ + 2)
  have b3 := hb.rd (at_ + 3)
  simp (disch := omega) [hin, W_loop_all, WL_succ, wrapF_i64, wrapF_u64, aIndexSl_ok, hr.rd]
  unfold le4; omega
theorem int4 (L d : Nat) (m off cap : Nat) (at_ : Int) (l : List Int) (len : Nat) (hlen : l.length = len) (h : AHeap) (hl : l.length < 4611686018427387904) (hr : RowI h .u8 m off l) (hb : Byt l) (ha0 : 0 ≤ at_) (ha : at_ + 4 ≤ l.length) :
    (En (L + 10) (d + 3)).go 58 [.slice (some ⟨m, off, none⟩) len cap, .int .i64 at_, .int .i64 4] h = some (.int .i64 (le4 l at_), h) := by
  refine go_of (show tabF 58 = some (.code a58) by rfl) rfl ?_
  unfold a58
  have := le4_bd hb at_
  simp (disch := omega) [num4 L d m off cap at_ l len hlen h hl hr hb ha0 ha, wrapF_i64]
end Go.Proofs.Ytphnlkdoeecbgaa.L13
