/- Laws about the machine's run of the program's functions, part 12, in import order. No condition. -/
import Derived.Test.YtnaafbdgkmlnaaaGreatM11

set_option linter.unusedVariables false
set_option linter.unusedSimpArgs false
set_option linter.unnecessarySimpa false
/- The abstract machine: tables of calls: what reads a call's arguments. (Printed by wip/tab.py.) -/
namespace Go.Proofs.YtnaafbdgkmlnaaaGreat
set_option linter.unusedVariables false
set_option linter.unusedSimpArgs false
set_option linter.unnecessarySimpa false

def anIn (g : Int → Int → Int → Option AV) : List AV → Option AV
  | [.int .i64 n, .int .i64 lo, .int .i64 hi] => g n lo hi
  | _ => none
@[simp] theorem anIn_eq (g : Int → Int → Int → Option AV) (n : Int) (lo : Int) (hi : Int) : anIn g [I64 n, I64 lo, I64 hi] = g n lo hi := by simp [anIn]
theorem anIn_inv {g : Int → Int → Int → Option AV} {args : List AV} {v : AV} (h : anIn g args = some v) : ∃ n lo hi, args = [I64 n, I64 lo, I64 hi] ∧ g n lo hi = some v := by
  unfold anIn at h
  split at h
  · exact ⟨_, _, _, rfl, h⟩
  · cases h
def anI (g : Int → Option AV) : List AV → Option AV
  | [.int .i64 n] => g n
  | _ => none
@[simp] theorem anI_eq (g : Int → Option AV) (n : Int) : anI g [I64 n] = g n := by simp [anI]
theorem anI_inv {g : Int → Option AV} {args : List AV} {v : AV} (h : anI g args = some v) : ∃ n, args = [I64 n] ∧ g n = some v := by
  unfold anI at h
  split at h
  · exact ⟨_, rfl, h⟩
  · cases h
def an0 (g : Option AV) : List AV → Option AV
  | [] => g
  | _ => none
@[simp] theorem an0_eq (g : Option AV) : an0 g [] = g := by simp [an0]
theorem an0_inv {g : Option AV} {args : List AV} {v : AV} (h : an0 g args = some v) : args = [] ∧ g = some v := by
  unfold an0 at h
  split at h
  · exact ⟨rfl, h⟩
  · cases h
def anR (g : R → Option AV) : List AV → Option AV
  | [.agg x0] => (decR1 x0).bind fun r => g r
  | _ => none
@[simp] theorem anR_eq (g : R → Option AV) (r : R) : anR g [.agg (encR r)] = g r := by simp [anR]
@[simp] theorem anR_lit1 (g : R → Option AV) (a0 : Int) (b0 : Int) (c0 : Int) (d0 : Int) (e0 : Int) (f0 : Int) (g0 : Int) (h0 : Int) : anR g [.agg [I64 a0, I64 b0, I64 c0, I64 d0, I64 e0, I64 f0, I64 g0, I64 h0]] = g ⟨a0, b0, c0, d0, e0, f0, g0, h0⟩ := by
  simp [anR]
theorem anR_inv {g : R → Option AV} {args : List AV} {v : AV} (h : anR g args = some v) : ∃ r, args = [.agg (encR r)] ∧ g r = some v := by
  unfold anR at h
  split at h
  · simp only [Option.bind_eq_some_iff] at h
    obtain ⟨r, h0, h⟩ := h
    rw [decR1_inv h0]
    exact ⟨_, rfl, h⟩
  · cases h
def anRI (g : R → Int → Option AV) : List AV → Option AV
  | [.agg x0, .int .i64 n] => (decR1 x0).bind fun r => g r n
  | _ => none
@[simp] theorem anRI_eq (g : R → Int → Option AV) (r : R) (n : Int) : anRI g [.agg (encR r), I64 n] = g r n := by simp [anRI]
@[simp] theorem anRI_lit1 (g : R → Int → Option AV) (a0 : Int) (b0 : Int) (c0 : Int) (d0 : Int) (e0 : Int) (f0 : Int) (g0 : Int) (h0 : Int) (n : Int) : anRI g [.agg [I64 a0, I64 b0, I64 c0, I64 d0, I64 e0, I64 f0, I64 g0, I64 h0], I64 n] = g ⟨a0, b0, c0, d0, e0, f0, g0, h0⟩ n := by
  simp [anRI]
theorem anRI_inv {g : R → Int → Option AV} {args : List AV} {v : AV} (h : anRI g args = some v) : ∃ r n, args = [.agg (encR r), I64 n] ∧ g r n = some v := by
  unfold anRI at h
  split at h
  · simp only [Option.bind_eq_some_iff] at h
    obtain ⟨r, h0, h⟩ := h
    rw [decR1_inv h0]
    exact ⟨_, _, rfl, h⟩
  · cases h
def anL (g : (List R) → Option AV) : List AV → Option AV
  | [.sl 8 x0] => (decR x0).bind fun L => g L
  | _ => none
@[simp] theorem anL_eq (g : (List R) → Option AV) (L : List R) : anL g [.sl 8 (L.map encR)] = g L := by simp [anL]
theorem anL_inv {g : (List R) → Option AV} {args : List AV} {v : AV} (h : anL g args = some v) : ∃ L, args = [.sl 8 (L.map encR)] ∧ g L = some v := by
  unfold anL at h
  split at h
  · simp only [Option.bind_eq_some_iff] at h
    obtain ⟨L, h0, h⟩ := h
    rw [decR_inv h0]
    exact ⟨_, rfl, h⟩
  · cases h
def anLI (g : (List R) → Int → Option AV) : List AV → Option AV
  | [.sl 8 x0, .int .i64 n] => (decR x0).bind fun L => g L n
  | _ => none
@[simp] theorem anLI_eq (g : (List R) → Int → Option AV) (L : List R) (n : Int) : anLI g [.sl 8 (L.map encR), I64 n] = g L n := by simp [anLI]
theorem anLI_inv {g : (List R) → Int → Option AV} {args : List AV} {v : AV} (h : anLI g args = some v) : ∃ L n, args = [.sl 8 (L.map encR), I64 n] ∧ g L n = some v := by
  unfold anLI at h
  split at h
  · simp only [Option.bind_eq_some_iff] at h
    obtain ⟨L, h0, h⟩ := h
    rw [decR_inv h0]
    exact ⟨_, _, rfl, h⟩
  · cases h
def anLII (g : (List R) → Int → Int → Option AV) : List AV → Option AV
  | [.sl 8 x0, .int .i64 n, .int .i64 m] => (decR x0).bind fun L => g L n m
  | _ => none
@[simp] theorem anLII_eq (g : (List R) → Int → Int → Option AV) (L : List R) (n : Int) (m : Int) : anLII g [.sl 8 (L.map encR), I64 n, I64 m] = g L n m := by simp [anLII]
theorem anLII_inv {g : (List R) → Int → Int → Option AV} {args : List AV} {v : AV} (h : anLII g args = some v) : ∃ L n m, args = [.sl 8 (L.map encR), I64 n, I64 m] ∧ g L n m = some v := by
  unfold anLII at h
  split at h
  · simp only [Option.bind_eq_some_iff] at h
    obtain ⟨L, h0, h⟩ := h
    rw [decR_inv h0]
    exact ⟨_, _, _, rfl, h⟩
  · cases h
def anV (g : (List Int) → Option AV) : List AV → Option AV
  | [.sl 1 x0] => (decI x0).bind fun V => g V
  | _ => none
@[simp] theorem anV_eq (g : (List Int) → Option AV) (V : List Int) : anV g [.sl 1 (ints V)] = g V := by simp [anV]
theorem anV_inv {g : (List Int) → Option AV} {args : List AV} {v : AV} (h : anV g args = some v) : ∃ V, args = [.sl 1 (ints V)] ∧ g V = some v := by
  unfold anV at h
  split at h
  · simp only [Option.bind_eq_some_iff] at h
    obtain ⟨V, h0, h⟩ := h
    rw [decI_inv h0]
    exact ⟨_, rfl, h⟩
  · cases h
def anVI (g : (List Int) → Int → Option AV) : List AV → Option AV
  | [.sl 1 x0, .int .i64 n] => (decI x0).bind fun V => g V n
  | _ => none
@[simp] theorem anVI_eq (g : (List Int) → Int → Option AV) (V : List Int) (n : Int) : anVI g [.sl 1 (ints V), I64 n] = g V n := by simp [anVI]
theorem anVI_inv {g : (List Int) → Int → Option AV} {args : List AV} {v : AV} (h : anVI g args = some v) : ∃ V n, args = [.sl 1 (ints V), I64 n] ∧ g V n = some v := by
  unfold anVI at h
  split at h
  · simp only [Option.bind_eq_some_iff] at h
    obtain ⟨V, h0, h⟩ := h
    rw [decI_inv h0]
    exact ⟨_, _, rfl, h⟩
  · cases h
def anVV (g : (List Int) → (List Int) → Option AV) : List AV → Option AV
  | [.sl 1 x0, .sl 1 x1] => (decI x0).bind fun V => (decI x1).bind fun W => g V W
  | _ => none
@[simp] theorem anVV_eq (g : (List Int) → (List Int) → Option AV) (V : List Int) (W : List Int) : anVV g [.sl 1 (ints V), .sl 1 (ints W)] = g V W := by simp [anVV]
theorem anVV_inv {g : (List Int) → (List Int) → Option AV} {args : List AV} {v : AV} (h : anVV g args = some v) : ∃ V W, args = [.sl 1 (ints V), .sl 1 (ints W)] ∧ g V W = some v := by
  unfold anVV at h
  split at h
  · simp only [Option.bind_eq_some_iff] at h
    obtain ⟨V, h0, W, h1, h⟩ := h
    rw [decI_inv h0, decI_inv h1]
    exact ⟨_, _, rfl, h⟩
  · cases h
def anP (g : Pg → Option AV) : List AV → Option AV
  | [.agg x0] => (decP1 x0).bind fun p => g p
  | _ => none
@[simp] theorem anP_eq (g : Pg → Option AV) (p : Pg) : anP g [.agg (encP p)] = g p := by simp [anP]
@[simp] theorem anP_lit1 (g : Pg → Option AV) (a0 : Int) (b0 : Int) (v0 : List Int) : anP g [.agg [I64 a0, I64 b0, .sl 1 (ints v0)]] = g ⟨a0, b0, v0⟩ := by
  simp [anP]
theorem anP_inv {g : Pg → Option AV} {args : List AV} {v : AV} (h : anP g args = some v) : ∃ p, args = [.agg (encP p)] ∧ g p = some v := by
  unfold anP at h
  split at h
  · simp only [Option.bind_eq_some_iff] at h
    obtain ⟨p, h0, h⟩ := h
    rw [decP1_inv h0]
    exact ⟨_, rfl, h⟩
  · cases h
def anPP (g : Pg → Pg → Option AV) : List AV → Option AV
  | [.agg x0, .agg x1] => (decP1 x0).bind fun p => (decP1 x1).bind fun q => g p q
  | _ => none
@[simp] theorem anPP_eq (g : Pg → Pg → Option AV) (p : Pg) (q : Pg) : anPP g [.agg (encP p), .agg (encP q)] = g p q := by simp [anPP]
@[simp] theorem anPP_lit1 (g : Pg → Pg → Option AV) (p : Pg) (a1 : Int) (b1 : Int) (v1 : List Int) : anPP g [.agg (encP p), .agg [I64 a1, I64 b1, .sl 1 (ints v1)]] = g p ⟨a1, b1, v1⟩ := by
  simp [anPP]
@[simp] theorem anPP_lit2 (g : Pg → Pg → Option AV) (a0 : Int) (b0 : Int) (v0 : List Int) (q : Pg) : anPP g [.agg [I64 a0, I64 b0, .sl 1 (ints v0)], .agg (encP q)] = g ⟨a0, b0, v0⟩ q := by
  simp [anPP]
@[simp] theorem anPP_lit3 (g : Pg → Pg → Option AV) (a0 : Int) (b0 : Int) (v0 : List Int) (a1 : Int) (b1 : Int) (v1 : List Int) : anPP g [.agg [I64 a0, I64 b0, .sl 1 (ints v0)], .agg [I64 a1, I64 b1, .sl 1 (ints v1)]] = g ⟨a0, b0, v0⟩ ⟨a1, b1, v1⟩ := by
  simp [anPP]
theorem anPP_inv {g : Pg → Pg → Option AV} {args : List AV} {v : AV} (h : anPP g args = some v) : ∃ p q, args = [.agg (encP p), .agg (encP q)] ∧ g p q = some v := by
  unfold anPP at h
  split at h
  · simp only [Option.bind_eq_some_iff] at h
    obtain ⟨p, h0, q, h1, h⟩ := h
    rw [decP1_inv h0, decP1_inv h1]
    exact ⟨_, _, rfl, h⟩
  · cases h
def anPR (g : Pg → R → Option AV) : List AV → Option AV
  | [.agg x0, .agg x1] => (decP1 x0).bind fun p => (decR1 x1).bind fun r => g p r
  | _ => none
@[simp] theorem anPR_eq (g : Pg → R → Option AV) (p : Pg) (r : R) : anPR g [.agg (encP p), .agg (encR r)] = g p r := by simp [anPR]
@[simp] theorem anPR_lit1 (g : Pg → R → Option AV) (p : Pg) (a1 : Int) (b1 : Int) (c1 : Int) (d1 : Int) (e1 : Int) (f1 : Int) (g1 : Int) (h1 : Int) : anPR g [.agg (encP p), .agg [I64 a1, I64 b1, I64 c1, I64 d1, I64 e1, I64 f1, I64 g1, I64 h1]] = g p ⟨a1, b1, c1, d1, e1, f1, g1, h1⟩ := by
  simp [anPR]
@[simp] theorem anPR_lit2 (g : Pg → R → Option AV) (a0 : Int) (b0 : Int) (v0 : List Int) (r : R) : anPR g [.agg [I64 a0, I64 b0, .sl 1 (ints v0)], .agg (encR r)] = g ⟨a0, b0, v0⟩ r := by
  simp [anPR]
@[simp] theorem anPR_lit3 (g : Pg → R → Option AV) (a0 : Int) (b0 : Int) (v0 : List Int) (a1 : Int) (b1 : Int) (c1 : Int) (d1 : Int) (e1 : Int) (f1 : Int) (g1 : Int) (h1 : Int) : anPR g [.agg [I64 a0, I64 b0, .sl 1 (ints v0)], .agg [I64 a1, I64 b1, I64 c1, I64 d1, I64 e1, I64 f1, I64 g1, I64 h1]] = g ⟨a0, b0, v0⟩ ⟨a1, b1, c1, d1, e1, f1, g1, h1⟩ := by
  simp [anPR]
theorem anPR_inv {g : Pg → R → Option AV} {args : List AV} {v : AV} (h : anPR g args = some v) : ∃ p r, args = [.agg (encP p), .agg (encR r)] ∧ g p r = some v := by
  unfold anPR at h
  split at h
  · simp only [Option.bind_eq_some_iff] at h
    obtain ⟨p, h0, r, h1, h⟩ := h
    rw [decP1_inv h0, decR1_inv h1]
    exact ⟨_, _, rfl, h⟩
  · cases h
def anPRI (g : Pg → R → Int → Option AV) : List AV → Option AV
  | [.agg x0, .agg x1, .int .i64 n] => (decP1 x0).bind fun p => (decR1 x1).bind fun r => g p r n
  | _ => none
@[simp] theorem anPRI_eq (g : Pg → R → Int → Option AV) (p : Pg) (r : R) (n : Int) : anPRI g [.agg (encP p), .agg (encR r), I64 n] = g p r n := by simp [anPRI]
@[simp] theorem anPRI_lit1 (g : Pg → R → Int → Option AV) (p : Pg) (a1 : Int) (b1 : Int) (c1 : Int) (d1 : Int) (e1 : Int) (f1 : Int) (g1 : Int) (h1 : Int) (n : Int) : anPRI g [.agg (encP p), .agg [I64 a1, I64 b1, I64 c1, I64 d1, I64 e1, I64 f1, I64 g1, I64 h1], I64 n] = g p ⟨a1, b1, c1, d1, e1, f1, g1, h1⟩ n := by
  simp [anPRI]
@[simp] theorem anPRI_lit2 (g : Pg → R → Int → Option AV) (a0 : Int) (b0 : Int) (v0 : List Int) (r : R) (n : Int) : anPRI g [.agg [I64 a0, I64 b0, .sl 1 (ints v0)], .agg (encR r), I64 n] = g ⟨a0, b0, v0⟩ r n := by
  simp [anPRI]
@[simp] theorem anPRI_lit3 (g : Pg → R → Int → Option AV) (a0 : Int) (b0 : Int) (v0 : List Int) (a1 : Int) (b1 : Int) (c1 : Int) (d1 : Int) (e1 : Int) (f1 : Int) (g1 : Int) (h1 : Int) (n : Int) : anPRI g [.agg [I64 a0, I64 b0, .sl 1 (ints v0)], .agg [I64 a1, I64 b1, I64 c1, I64 d1, I64 e1, I64 f1, I64 g1, I64 h1], I64 n] = g ⟨a0, b0, v0⟩ ⟨a1, b1, c1, d1, e1, f1, g1, h1⟩ n := by
  simp [anPRI]
theorem anPRI_inv {g : Pg → R → Int → Option AV} {args : List AV} {v : AV} (h : anPRI g args = some v) : ∃ p r n, args = [.agg (encP p), .agg (encR r), I64 n] ∧ g p r n = some v := by
  unfold anPRI at h
  split at h
  · simp only [Option.bind_eq_some_iff] at h
    obtain ⟨p, h0, r, h1, h⟩ := h
    rw [decP1_inv h0, decR1_inv h1]
    exact ⟨_, _, _, rfl, h⟩
  · cases h
def anS (g : (List Pg) → Option AV) : List AV → Option AV
  | [.sl 3 x0] => (decP x0).bind fun S => g S
  | _ => none
@[simp] theorem anS_eq (g : (List Pg) → Option AV) (S : List Pg) : anS g [.sl 3 (S.map encP)] = g S := by simp [anS]
theorem anS_inv {g : (List Pg) → Option AV} {args : List AV} {v : AV} (h : anS g args = some v) : ∃ S, args = [.sl 3 (S.map encP)] ∧ g S = some v := by
  unfold anS at h
  split at h
  · simp only [Option.bind_eq_some_iff] at h
    obtain ⟨S, h0, h⟩ := h
    rw [decP_inv h0]
    exact ⟨_, rfl, h⟩
  · cases h
def anSS (g : (List Pg) → (List Pg) → Option AV) : List AV → Option AV
  | [.sl 3 x0, .sl 3 x1] => (decP x0).bind fun S => (decP x1).bind fun T => g S T
  | _ => none
@[simp] theorem anSS_eq (g : (List Pg) → (List Pg) → Option AV) (S : List Pg) (T : List Pg) : anSS g [.sl 3 (S.map encP), .sl 3 (T.map encP)] = g S T := by simp [anSS]
theorem anSS_inv {g : (List Pg) → (List Pg) → Option AV} {args : List AV} {v : AV} (h : anSS g args = some v) : ∃ S T, args = [.sl 3 (S.map encP), .sl 3 (T.map encP)] ∧ g S T = some v := by
  unfold anSS at h
  split at h
  · simp only [Option.bind_eq_some_iff] at h
    obtain ⟨S, h0, T, h1, h⟩ := h
    rw [decP_inv h0, decP_inv h1]
    exact ⟨_, _, rfl, h⟩
  · cases h
def anSL (g : (List Pg) → (List R) → Option AV) : List AV → Option AV
  | [.sl 3 x0, .sl 8 x1] => (decP x0).bind fun S => (decR x1).bind fun L => g S L
  | _ => none
@[simp] theorem anSL_eq (g : (List Pg) → (List R) → Option AV) (S : List Pg) (L : List R) : anSL g [.sl 3 (S.map encP), .sl 8 (L.map encR)] = g S L := by simp [anSL]
theorem anSL_inv {g : (List Pg) → (List R) → Option AV} {args : List AV} {v : AV} (h : anSL g args = some v) : ∃ S L, args = [.sl 3 (S.map encP), .sl 8 (L.map encR)] ∧ g S L = some v := by
  unfold anSL at h
  split at h
  · simp only [Option.bind_eq_some_iff] at h
    obtain ⟨S, h0, L, h1, h⟩ := h
    rw [decP_inv h0, decR_inv h1]
    exact ⟨_, _, rfl, h⟩
  · cases h
def anLL (g : (List R) → (List R) → Option AV) : List AV → Option AV
  | [.sl 8 x0, .sl 8 x1] => (decR x0).bind fun L => (decR x1).bind fun L2 => g L L2
  | _ => none
@[simp] theorem anLL_eq (g : (List R) → (List R) → Option AV) (L : List R) (L2 : List R) : anLL g [.sl 8 (L.map encR), .sl 8 (L2.map encR)] = g L L2 := by simp [anLL]
theorem anLL_inv {g : (List R) → (List R) → Option AV} {args : List AV} {v : AV} (h : anLL g args = some v) : ∃ L L2, args = [.sl 8 (L.map encR), .sl 8 (L2.map encR)] ∧ g L L2 = some v := by
  unfold anLL at h
  split at h
  · simp only [Option.bind_eq_some_iff] at h
    obtain ⟨L, h0, L2, h1, h⟩ := h
    rw [decR_inv h0, decR_inv h1]
    exact ⟨_, _, rfl, h⟩
  · cases h
def anE (g : Eng → Option AV) : List AV → Option AV
  | [.agg x0] => (decE x0).bind fun e => g e
  | _ => none
@[simp] theorem anE_eq (g : Eng → Option AV) (e : Eng) : anE g [.agg (encE e)] = g e := by simp [anE]
@[simp] theorem anE_lit1 (g : Eng → Option AV) (d0 : List Pg) (m0 : List Pg) (l0 : List R) (s0 : Int) (b0 : Bool) : anE g [.agg [.sl 3 (List.map encP d0), .sl 3 (List.map encP m0), .sl 8 (List.map encR l0), I64 s0, .bool b0]] = g ⟨d0, m0, l0, s0, b0⟩ := by
  simp [anE]
theorem anE_inv {g : Eng → Option AV} {args : List AV} {v : AV} (h : anE g args = some v) : ∃ e, args = [.agg (encE e)] ∧ g e = some v := by
  unfold anE at h
  split at h
  · simp only [Option.bind_eq_some_iff] at h
    obtain ⟨e, h0, h⟩ := h
    rw [decE_inv h0]
    exact ⟨_, rfl, h⟩
  · cases h
def anEE (g : Eng → Eng → Option AV) : List AV → Option AV
  | [.agg x0, .agg x1] => (decE x0).bind fun e => (decE x1).bind fun e2 => g e e2
  | _ => none
@[simp] theorem anEE_eq (g : Eng → Eng → Option AV) (e : Eng) (e2 : Eng) : anEE g [.agg (encE e), .agg (encE e2)] = g e e2 := by simp [anEE]
@[simp] theorem anEE_lit1 (g : Eng → Eng → Option AV) (e : Eng) (d1 : List Pg) (m1 : List Pg) (l1 : List R) (s1 : Int) (b1 : Bool) : anEE g [.agg (encE e), .agg [.sl 3 (List.map encP d1), .sl 3 (List.map encP m1), .sl 8 (List.map encR l1), I64 s1, .bool b1]] = g e ⟨d1, m1, l1, s1, b1⟩ := by
  simp [anEE]
@[simp] theorem anEE_lit2 (g : Eng → Eng → Option AV) (d0 : List Pg) (m0 : List Pg) (l0 : List R) (s0 : Int) (b0 : Bool) (e2 : Eng) : anEE g [.agg [.sl 3 (List.map encP d0), .sl 3 (List.map encP m0), .sl 8 (List.map encR l0), I64 s0, .bool b0], .agg (encE e2)] = g ⟨d0, m0, l0, s0, b0⟩ e2 := by
  simp [anEE]
@[simp] theorem anEE_lit3 (g : Eng → Eng → Option AV) (d0 : List Pg) (m0 : List Pg) (l0 : List R) (s0 : Int) (b0 : Bool) (d1 : List Pg) (m1 : List Pg) (l1 : List R) (s1 : Int) (b1 : Bool) : anEE g [.agg [.sl 3 (List.map encP d0), .sl 3 (List.map encP m0), .sl 8 (List.map encR l0), I64 s0, .bool b0], .agg [.sl 3 (List.map encP d1), .sl 3 (List.map encP m1), .sl 8 (List.map encR l1), I64 s1, .bool b1]] = g ⟨d0, m0, l0, s0, b0⟩ ⟨d1, m1, l1, s1, b1⟩ := by
  simp [anEE]
theorem anEE_inv {g : Eng → Eng → Option AV} {args : List AV} {v : AV} (h : anEE g args = some v) : ∃ e e2, args = [.agg (encE e), .agg (encE e2)] ∧ g e e2 = some v := by
  unfold anEE at h
  split at h
  · simp only [Option.bind_eq_some_iff] at h
    obtain ⟨e, h0, e2, h1, h⟩ := h
    rw [decE_inv h0, decE_inv h1]
    exact ⟨_, _, rfl, h⟩
  · cases h
def anEI (g : Eng → Int → Option AV) : List AV → Option AV
  | [.agg x0, .int .i64 n] => (decE x0).bind fun e => g e n
  | _ => none
@[simp] theorem anEI_eq (g : Eng → Int → Option AV) (e : Eng) (n : Int) : anEI g [.agg (encE e), I64 n] = g e n := by simp [anEI]
@[simp] theorem anEI_lit1 (g : Eng → Int → Option AV) (d0 : List Pg) (m0 : List Pg) (l0 : List R) (s0 : Int) (b0 : Bool) (n : Int) : anEI g [.agg [.sl 3 (List.map encP d0), .sl 3 (List.map encP m0), .sl 8 (List.map encR l0), I64 s0, .bool b0], I64 n] = g ⟨d0, m0, l0, s0, b0⟩ n := by
  simp [anEI]
theorem anEI_inv {g : Eng → Int → Option AV} {args : List AV} {v : AV} (h : anEI g args = some v) : ∃ e n, args = [.agg (encE e), I64 n] ∧ g e n = some v := by
  unfold anEI at h
  split at h
  · simp only [Option.bind_eq_some_iff] at h
    obtain ⟨e, h0, h⟩ := h
    rw [decE_inv h0]
    exact ⟨_, _, rfl, h⟩
  · cases h
def anEII (g : Eng → Int → Int → Option AV) : List AV → Option AV
  | [.agg x0, .int .i64 n, .int .i64 m] => (decE x0).bind fun e => g e n m
  | _ => none
@[simp] theorem anEII_eq (g : Eng → Int → Int → Option AV) (e : Eng) (n : Int) (m : Int) : anEII g [.agg (encE e), I64 n, I64 m] = g e n m := by simp [anEII]
@[simp] theorem anEII_lit1 (g : Eng → Int → Int → Option AV) (d0 : List Pg) (m0 : List Pg) (l0 : List R) (s0 : Int) (b0 : Bool) (n : Int) (m : Int) : anEII g [.agg [.sl 3 (List.map encP d0), .sl 3 (List.map encP m0), .sl 8 (List.map encR l0), I64 s0, .bool b0], I64 n, I64 m] = g ⟨d0, m0, l0, s0, b0⟩ n m := by
  simp [anEII]
theorem anEII_inv {g : Eng → Int → Int → Option AV} {args : List AV} {v : AV} (h : anEII g args = some v) : ∃ e n m, args = [.agg (encE e), I64 n, I64 m] ∧ g e n m = some v := by
  unfold anEII at h
  split at h
  · simp only [Option.bind_eq_some_iff] at h
    obtain ⟨e, h0, h⟩ := h
    rw [decE_inv h0]
    exact ⟨_, _, _, rfl, h⟩
  · cases h
def anEIP (g : Eng → Int → Pg → Option AV) : List AV → Option AV
  | [.agg x0, .int .i64 n, .agg x2] => (decE x0).bind fun e => (decP1 x2).bind fun p => g e n p
  | _ => none
@[simp] theorem anEIP_eq (g : Eng → Int → Pg → Option AV) (e : Eng) (n : Int) (p : Pg) : anEIP g [.agg (encE e), I64 n, .agg (encP p)] = g e n p := by simp [anEIP]
@[simp] theorem anEIP_lit1 (g : Eng → Int → Pg → Option AV) (e : Eng) (n : Int) (a2 : Int) (b2 : Int) (v2 : List Int) : anEIP g [.agg (encE e), I64 n, .agg [I64 a2, I64 b2, .sl 1 (ints v2)]] = g e n ⟨a2, b2, v2⟩ := by
  simp [anEIP]
@[simp] theorem anEIP_lit2 (g : Eng → Int → Pg → Option AV) (d0 : List Pg) (m0 : List Pg) (l0 : List R) (s0 : Int) (b0 : Bool) (n : Int) (p : Pg) : anEIP g [.agg [.sl 3 (List.map encP d0), .sl 3 (List.map encP m0), .sl 8 (List.map encR l0), I64 s0, .bool b0], I64 n, .agg (encP p)] = g ⟨d0, m0, l0, s0, b0⟩ n p := by
  simp [anEIP]
@[simp] theorem anEIP_lit3 (g : Eng → Int → Pg → Option AV) (d0 : List Pg) (m0 : List Pg) (l0 : List R) (s0 : Int) (b0 : Bool) (n : Int) (a2 : Int) (b2 : Int) (v2 : List Int) : anEIP g [.agg [.sl 3 (List.map encP d0), .sl 3 (List.map encP m0), .sl 8 (List.map encR l0), I64 s0, .bool b0], I64 n, .agg [I64 a2, I64 b2, .sl 1 (ints v2)]] = g ⟨d0, m0, l0, s0, b0⟩ n ⟨a2, b2, v2⟩ := by
  simp [anEIP]
theorem anEIP_inv {g : Eng → Int → Pg → Option AV} {args : List AV} {v : AV} (h : anEIP g args = some v) : ∃ e n p, args = [.agg (encE e), I64 n, .agg (encP p)] ∧ g e n p = some v := by
  unfold anEIP at h
  split at h
  · simp only [Option.bind_eq_some_iff] at h
    obtain ⟨e, h0, p, h2, h⟩ := h
    rw [decE_inv h0, decP1_inv h2]
    exact ⟨_, _, _, rfl, h⟩
  · cases h

end Go.Proofs.YtnaafbdgkmlnaaaGreat

/- The abstract machine: calls that hand back one new block. -/
namespace Go.Proofs.YtnaafbdgkmlnaaaGreat
set_option linter.unusedVariables false
set_option linter.unusedSimpArgs false
set_option linter.unnecessarySimpa false

/-- A call that hands back V of one new block of these rows. -/
def Mk1 (f : FuncId) (args : List AV) (V : AV → AV) (e sz : Nat) (rows : List (List AV)) : Prop := ∀ B, ToldN f args [] [] B (V (.ref B sz 0 rows.length)) [⟨e, sz, rows⟩]

theorem mk1_of {f : FuncId} {args : List AV} {V : AV → AV} {e sz : Nat} {rows : List (List AV)} (hV : ∀ B id, B ≤ id → Ren B [id] (V (.ref id sz 0 rows.length)) (V (.ref B sz 0 rows.length))) (hr : ∀ B, AV.ltLL B rows)
    (h : ∀ B, ACalls PP f args Hp.nil B (fun v' H' B' => ∃ id, B ≤ id ∧ v' = V (.ref id sz 0 rows.length) ∧ H' id = some ⟨e, sz, rows⟩)) : Mk1 f args V e sz rows := fun B => by
  refine ⟨?_, by simp, by simp, by simp, by simp⟩
  refine (h B).rename fun v H1 B1 ⟨id, h1, h2, h3⟩ => ?_
  refine ⟨[id], V (.ref B sz 0 rows.length), Hp.nil.set B ⟨e, sz, rows⟩, by simp, by simpa using h1, by rw [h2]; exact hV B id h1, ?_, rfl, rfl, by simp, ?_⟩
  · intro i k' hk
    simp only [Hp.set_app, Hp.nil_app] at hk
    split at hk
    · rename_i hi
      cases hk
      refine ⟨id, _, .inr ⟨0, rfl, by omega⟩, h3, rfl, rfl, rfl, fun j r r' a b => ?_, fun i j x y hx hy => ?_⟩
      · rw [a] at b; cases b; rfl
      · rw [hx] at hy; cases hy; exact .same _ (AV.ltLL_at2 (hr B) hx)
    · cases hk
  · intro j k hj
    cases j with
    | zero => simp at hj; subst hj; simp
    | succ j => simp at hj

theorem ren_self {B id sz n : Nat} (h : B ≤ id) : Ren B [id] (.ref id sz 0 n) (.ref B sz 0 n) := .ref _ _ _ _ _ (.inr ⟨0, rfl, by omega⟩)
theorem Ren.pt {B : Nat} {ids : List Nat} {xs ys : List AV} (hl : ys.length = xs.length) (h : ∀ (k : Nat) (x y : AV), xs[k]? = some x → ys[k]? = some y → Ren B ids x y) : Ren B ids (.agg xs) (.agg ys) := .agg _ _ hl h

section
variable {f : FuncId} {args : List AV} {V : AV → AV} {e sz : Nat} {rows : List (List AV)} {H : Hp} {B : Nat}
theorem callw_mk {K : AV → Hp → Nat → Prop} (h : Mk1 f args V e sz rows) (k : K (V (.ref B sz 0 rows.length)) (H.set B ⟨e, sz, rows⟩) (B + 1)) : CallW f args H B K :=
  .inr (.inr ⟨_, [], [], _, h B, by simp, k⟩)
theorem calld_mk {K : AV → Hp → Nat → Info → Prop} (h : Mk1 f args V e sz rows) (k : K (V (.ref B sz 0 rows.length)) (H.set B ⟨e, sz, rows⟩) (B + 1) ⟨[], [B], true, false, 0⟩) : CallD f args H B K :=
  .inr ⟨_, [], [], _, h B, by simp, k⟩
theorem told_mk (h : Mk1 f args V e sz rows) (hV : ∀ (H : Hp) id, H id = some ⟨e, sz, rows⟩ → Fz allS H (V (.ref id sz 0 rows.length)) (V (.sl sz rows))) (hv : AV.lt 0 (V (.sl sz rows))) : Told f args [] [] 0 (V (.sl sz rows)) :=
  told_fz hv fun B => (h B).call.mono fun v H1 B1 ⟨h1, _, _, h4⟩ => by rw [h1]; exact hV _ _ (by simpa using h4 0 _ rfl)
end

theorem Fz.one {S : Nat → Prop} {H : Hp} {xs ys : List AV} (hl : ys.length = xs.length) (h : ∀ (k : Nat) (x y : AV), xs[k]? = some x → ys[k]? = some y → Fz S H x y) : Fz S H (.agg xs) (.agg ys) := .agg _ _ hl h
/-- Of structs, field by field. -/
inductive FzL (S : Nat → Prop) (H : Hp) : List AV → List AV → Prop
  | nil : FzL S H [] []
  | cons {x y : AV} {xs ys : List AV} : Fz S H x y → FzL S H xs ys → FzL S H (x :: xs) (y :: ys)
theorem FzL.pt {S : Nat → Prop} {H : Hp} {xs ys : List AV} (h : FzL S H xs ys) : ys.length = xs.length ∧ ∀ (k : Nat) (x y : AV), xs[k]? = some x → ys[k]? = some y → Fz S H x y := by
  induction h with
  | nil => exact ⟨rfl, by simp⟩
  | cons h1 h2 ih =>
    refine ⟨by simp [ih.1], fun k x y hx hy => ?_⟩
    cases k with
    | zero => simp at hx hy; subst hx hy; exact h1
    | succ k => exact ih.2 k x y (by simpa using hx) (by simpa using hy)
theorem Fz.agg' {S : Nat → Prop} {H : Hp} {xs ys : List AV} (h : FzL S H xs ys) : Fz S H (.agg xs) (.agg ys) := .agg _ _ h.pt.1 h.pt.2
theorem Fz.tup' {S : Nat → Prop} {H : Hp} {xs ys : List AV} (h : FzL S H xs ys) : Fz S H (.tup xs) (.tup ys) := .tup _ _ h.pt.1 h.pt.2
theorem Fz.of_eq {S : Nat → Prop} {H : Hp} {x y : AV} (h : x = y) : Fz S H x y := h ▸ .same x
theorem Fz.ints {H : Hp} {id e n : Nat} {L L' : List Int} (h : H id = some ⟨e, 1, ints L⟩) (hL : L = L') (hn : n = L.length) : Fz allS H (.ref id 1 0 n) (.sl 1 (ints L')) := by
  subst hL; exact Fz.slice h rfl rfl (by simpa using hn)

end Go.Proofs.YtnaafbdgkmlnaaaGreat

/- Functions: pages anew, lists anew. -/
namespace Go.Proofs.YtnaafbdgkmlnaaaGreat
set_option linter.unusedVariables false
set_option linter.unusedSimpArgs false
set_option linter.unnecessarySimpa false
set_option maxRecDepth 20000
set_option maxHeartbeats 2000000

def Mu (l : List Nat) : Cfg := M0.with (fun d => decide (d ∈ l))
@[simp] theorem Mu_mu (l : List Nat) (d : Nat) : (Mu l).mu d = decide (d ∈ l) := nr rfl
@[simp] theorem Mu_an (l : List Nat) (f : FuncId) (xs : List AV) : (Mu l).an f xs = none := nr rfl
theorem ints_rows (L : List Int) : ∀ B, AV.ltLL B (ints L) := fun B => by have := lt_ints B L; simpa only [AV.lt] using this
theorem ints_nil {L : List Int} : ints L = [] ↔ L = [] := by simp [ints]

theorem c116 : Told 116 [] [] [] 0 (.agg (encP pgNew)) := by
  refine told_fz (lt_page 0 _) fun B => ?_
  refine acallsF M0 Tryz.func116 (by kernel_rfl) fun hlt => ?_
  simp [Tryz.f116]
  exact .same _
theorem c121 : Told 121 [] [] [] 0 (.agg (encP pgNew)) := by
  refine told_fz (lt_page 0 _) fun B => ?_
  refine acallsF M0 Tryz.func121 (by kernel_rfl) fun hlt => ?_
  simp [Tryz.f121]
  exact .same _

theorem c66 (p : Pg) (hL : p.vals.length ≤ 1000000) : Told 66 [.agg (encP p)] [] [] 0 (.agg (encP p)) := by
  refine told_fz (lt_page 0 _) fun B => ?_
  refine acallsF (Mu [1]) Tryz.func66 (by kernel_rfl) fun hlt => ?_
  have hb : p.vals.length * 8 ≤ 140737488355328 := by omega
  simp [Tryz.f66, encP, pgRow, hb]
  exact .same _
/-- A page whose values are v. -/
def pgV (p : Pg) (v : AV) : AV := .agg [I64 p.lsn, I64 p.owner, v]
theorem pgV_ren (p : Pg) (n B id : Nat) (h : B ≤ id) : Ren B [id] (pgV p (.ref id 1 0 n)) (pgV p (.ref B 1 0 n)) := by
  refine .agg _ _ rfl fun k x y hx hy => ?_
  match k with
  | 0 => cases hx; cases hy; exact .same _ trivial
  | 1 => cases hx; cases hy; exact .same _ trivial
  | 2 => cases hx; cases hy; exact ren_self h
  | n + 3 => simp at hx
theorem c66N (p : Pg) (h0 : p.vals ≠ []) (hL : p.vals.length ≤ 1000000) : Mk1 66 [.agg (encP p)] (pgV p) 3 1 (ints p.vals) := by
  refine mk1_of (fun B id h => pgV_ren p _ B id h) (ints_rows _) fun B => ?_
  refine acallsF (Mu [1, 6]) Tryz.func66 (by kernel_rfl) fun hlt => ?_
  have hb : p.vals.length * 8 ≤ 140737488355328 := by omega
  simp [Tryz.f66, encP, pgRow, hb, ints_nil, h0, pgV]
  exact ⟨B + 2, by omega, rfl, by simp⟩

theorem c120 (L : List Int) (hL : L.length ≤ 1000000) : Told 120 [.sl 1 (ints L)] [] [] 0 (.sl 1 (ints L)) := by
  refine told_fz (lt_ints 0 _) fun B => ?_
  refine acallsF M0 Tryz.func120 (by kernel_rfl) fun hlt => ?_
  have hb : L.length * 8 ≤ 140737488355328 := by omega
  simp [Tryz.f120, hb]
  exact ⟨.same _, fun h => h ▸ .nils 1⟩
theorem c120N (L : List Int) (h0 : L ≠ []) (hL : L.length ≤ 1000000) : Mk1 120 [.sl 1 (ints L)] id 3 1 (ints L) := by
  refine mk1_of (fun B id h => ren_self h) (ints_rows _) fun B => ?_
  refine acallsF (Mu [7]) Tryz.func120 (by kernel_rfl) fun hlt => ?_
  have hb : L.length * 8 ≤ 140737488355328 := by omega
  simp [Tryz.f120, hb, ints_nil, h0]
theorem c80 (L : List R) (hL : L.length ≤ 1000000) : Told 80 [.sl 8 (L.map encR)] [] [] 0 (.sl 8 (L.map encR)) := by
  refine told_fz (lt_recs 0 _) fun B => ?_
  refine acallsF M0 Tryz.func80 (by kernel_rfl) fun hlt => ?_
  have hb : L.length * 64 ≤ 140737488355328 := by omega
  simp [Tryz.f80, hb]
  exact ⟨.same _, fun h => h ▸ .nils 8⟩

theorem c61 (p : Pg) (hL : p.vals.length ≤ 1000000) : Told 61 [.agg (encP p)] [] [] 0 (.agg (encP p)) := by
  refine told_fz (lt_page 0 _) fun B => ?_
  refine acallsF M0 Tryz.func61 (by kernel_rfl) fun hlt => ?_
  simp [Tryz.f61, encP, pgRow]
  refine calld_told (c120 p.vals hL) (Nat.zero_le _) (by simp) ?_
  simp
  refine ⟨chkW_sh (by kernel_rfl), ?_⟩
  exact .same _
theorem c61N (p : Pg) (h0 : p.vals ≠ []) (hL : p.vals.length ≤ 1000000) : Mk1 61 [.agg (encP p)] (pgV p) 3 1 (ints p.vals) := by
  refine mk1_of (fun B id h => pgV_ren p _ B id h) (ints_rows _) fun B => ?_
  refine acallsF M0 Tryz.func61 (by kernel_rfl) fun hlt => ?_
  simp [Tryz.f61, encP, pgRow]
  refine calld_mk (c120N p.vals h0 hL) ?_
  simp [pgV]
  exact ⟨chkW_sh (by kernel_rfl), B + 1, by omega, rfl, by simp⟩

/-! ### Comparing -/
theorem c145 (L L' : List Int) (hL : L.length ≤ 1000000) : Told 145 [.sl 1 (ints L), .sl 1 (ints L')] [] [] 0 (.bool (decide (L = L'))) := by
  refine told_of (Keep.nil _) trivial fun B _ => ?_
  refine acallsF M0 Tryz.func145 (by kernel_rfl) fun hlt => ?_
  simp [Tryz.f145]
  refine gC (fun h => ?_) (fun h => ?_) <;> simp at h <;> simp
  · intro e; subst e; omega
  refine aloop_ind (ι := Nat) (fun n => L.length - n) (fun n => n ≤ L.length ∧ L.take n = L'.take n) (fun n => [(0, .sl 1 (ints L)), (1, .sl 1 (ints L')), (12, I64 L.length), (13, I64 n)]) (fun _ => Hp.of []) (fun _ => B) 0 ⟨Nat.zero_le _, rfl⟩ (by simp) (by simp) (Nat.le_refl _) ?_
  rintro A n ⟨hn, hi⟩ ih
  refine wpC_sound M0 _ _ _ _ _ (by kernel_rfl) ?_
  simp [cond_dec]
  constructor
  · intro hlt'
    have w1 := w64 ((n : Int) + 1) (by omega) (by omega)
    have hlt2 : n < L'.length := by omega
    have e1 : (ints L)[n]? = some [I64 L[n]] := ints_at (List.getElem?_eq_getElem hlt')
    have e2 : (ints L')[n]? = some [I64 L'[n]] := ints_at (List.getElem?_eq_getElem hlt2)
    simp [e1, e2]
    refine gC (fun h => ?_) (fun h => ?_) <;> simp at h <;> simp
    · intro e; subst e; exact h rfl
    · refine ih (n + 1) _ _ _ (by omega) ⟨hlt', ?_⟩ (by simp [w1]) (by simp) (Nat.le_refl _)
      rw [List.take_add_one, List.take_add_one, hi, List.getElem?_eq_getElem hlt', List.getElem?_eq_getElem hlt2, h]
  · intro h'
    have : n = L.length := by omega
    subst this
    rw [List.take_length, List.take_of_length_le (by omega)] at hi
    simp [hi]

end Go.Proofs.YtnaafbdgkmlnaaaGreat

/- Functions: a page behind a record. -/
namespace Go.Proofs.YtnaafbdgkmlnaaaGreat
set_option linter.unusedVariables false
set_option linter.unusedSimpArgs false
set_option linter.unnecessarySimpa false
set_option maxRecDepth 20000
set_option maxHeartbeats 2000000

theorem set3 {L : List Int} {n : Nat} {v : Int} : (ints L).set n [I64 v] = ints (L.set n v) := by simp [ints, List.map_set]
theorem ints_lit (a b c : Int) : [[I64 a], [I64 b], [I64 c]] = ints [a, b, c] := rfl

theorem c164 (p : Pg) (r : R) (lsn : Int) (h3 : p.vals.length = 3) (hs : r.slot ≤ 2) : Told 164 [.agg (encP p), .agg (encR r), I64 lsn] [] [] 0 (.agg (encP (wr p r lsn))) := by
  refine told_fz (lt_page 0 _) fun B => ?_
  refine acallsF M0 Tryz.func164 (by kernel_rfl) fun hlt => ?_
  have h0 : p.vals ≠ [] := by intro e; simp [e] at h3
  simp [Tryz.f164]
  refine callw_mk (c66N p h0 (by omega)) ?_
  simp [pgV, encR]
  refine gC (fun h => ?_) (fun h => ?_) <;> simp at h
  · have h' : r.slot < 3 := by omega
    have h'' : r.slot.toNat < 3 := by omega
    simp [h, h3, h', h'']
    refine Fz.agg' (.cons (.of_eq ?_) (.cons (.of_eq ?_) (.cons ?_ .nil)))
    · simp [wr, h]
    · simp [wr, h]
    · simp [wr, h]
      refine Fz.ints (e := 3) (L := p.vals.set r.slot.toNat r.new) ?_ rfl (by simp [h3])
      simp [set3]
  · have h' : ¬ 0 ≤ r.slot := by omega
    simp [Nat.add_assoc]
    refine gC (fun hz => ?_) (fun hz => ?_) <;> simp at hz <;> simp [Nat.add_assoc, wr, h', hz]
    · exact .same _
    · exact Fz.agg' (.cons (.same _) (.cons (.same _) (.cons (Fz.ints (e := 3) (L := p.vals) (by simp) rfl rfl) .nil)))

theorem c144 (p : Pg) (r : R) (h3 : p.vals.length = 3) (hs : r.slot ≤ 2) : Told 144 [.agg (encP p), .agg (encR r)] [] [] 0 (.agg (encP (wr p r p.lsn))) := by
  refine told_fz (lt_page 0 _) fun B => ?_
  refine acallsF M0 Tryz.func144 (by kernel_rfl) fun hlt => ?_
  have h0 : p.vals ≠ [] := by intro e; simp [e] at h3
  simp [Tryz.f144]
  refine callw_mk (c61N p h0 (by omega)) ?_
  simp [pgV, encR, Nat.add_assoc]
  refine gC (fun h => ?_) (fun h => ?_) <;> simp at h
  · have h' : r.slot < 3 := by omega
    have h'' : r.slot.toNat < 3 := by omega
    simp [h, h3, h', h'', Nat.add_assoc]
    refine Fz.agg' (.cons (.of_eq ?_) (.cons (.of_eq ?_) (.cons ?_ .nil)))
    · simp [wr, h]
    · simp [wr, h]
    · simp [wr, h]
      refine Fz.ints (e := 3) (L := p.vals.set r.slot.toNat r.new) ?_ rfl (by simp [h3])
      simp [set3]
  · have h' : ¬ 0 ≤ r.slot := by omega
    simp [Nat.add_assoc]
    refine gC (fun hz => ?_) (fun hz => ?_) <;> simp at hz <;> simp [Nat.add_assoc, wr, h', hz]
    · refine ⟨chkW_sh (by kernel_rfl), ?_⟩
      exact .same _
    · exact Fz.agg' (.cons (.same _) (.cons (.same _) (.cons (Fz.ints (e := 3) (L := p.vals) (by simp) rfl rfl) .nil)))

end Go.Proofs.YtnaafbdgkmlnaaaGreat
