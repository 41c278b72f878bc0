/- Package tourkeep3: one move for some kinds. -/
import Derived.Test.YtbddlekpoelmkaaMig7
import Derived.Test.YtbddlekpoelmkaaB2s
import Derived.Test.YtbddlekpoelmkaaMake1
set_option linter.unusedVariables false
set_option linter.unusedSimpArgs false
namespace Go.Proofs.Ytbddlekpoelmkaa.Am
open Go Go.RowKit

theorem wrap8_id {n : Int} (h1 : 0 ≤ n) (h2 : n ≤ 255) : IntKind.u8.wrap n = n := by
  simp [IntKind.wrap, IntKind.signed, IntKind.bits]; omega

def nmM (n i : Int) : Str := ⟨#[110]⟩ ++ strOfNums [97 + i % 26, 97 + n % 26]
def moveM (k : List GKind) (d n v i : Int) : GMove :=
  { Do := d % 7, Kind := (k.getD (n % (k.length : Int)).toNat k0).Name,
    Field := if (k.getD (n % (k.length : Int)).toNat k0).Fields = [] then ⟨#[]⟩ else ((k.getD (n % (k.length : Int)).toNat k0).Fields.getD (v % ((k.getD (n % (k.length : Int)).toNat k0).Fields.length : Int)).toNat f0).Name,
    Name := nmM n i, Value := v, New := ⟨nmM n i, 1 + v % 12, n % 30 - 20⟩, Whole := ⟨nmM n i, [⟨⟨#[113]⟩, 4, v.tmod 9⟩]⟩ }

set_option maxRecDepth 20000 in
theorem move_fn (k : List GKind) (d n v i : Int) (hk0 : 0 < k.length) (hk : k.length ≤ 1000000) (hf : ∀ x ∈ k, x.Fields.length ≤ 1000000) :
    Fn Try.prog 40 [.sl 2 (k.map GKind.e), kI d, kI n, kI v, kI i] (.agg (moveM k d n v i).e) := by
  refine fn_go Try.func40 rfl ?_
  simp [Try.ntmps40]
  have hn1 := Int.emod_nonneg n (b := (k.length : Int)) (by omega)
  have hn2 := Int.emod_lt_of_pos n (b := (k.length : Int)) (by omega)
  obtain ⟨q, hq⟩ : ∃ q : Nat, n % (k.length : Int) = q := ⟨(n % (k.length : Int)).toNat, by omega⟩
  have hqk : q < k.length := by omega
  obtain ⟨x, hx⟩ : ∃ x, k[q] = x := ⟨_, rfl⟩
  have hm : moveM k d n v i = { Do := d % 7, Kind := x.Name, Field := if x.Fields = [] then ⟨#[]⟩ else (x.Fields.getD (v % (x.Fields.length : Int)).toNat f0).Name, Name := nmM n i, Value := v, New := ⟨nmM n i, 1 + v % 12, n % 30 - 20⟩, Whole := ⟨nmM n i, [⟨⟨#[113]⟩, 4, v.tmod 9⟩]⟩ } := by
    simp [moveM, hq, List.getD, hqk, hx]
  refine cal (Below_fn n k.length (by omega) (by omega)) ?_
  simp [hq, hqk, hx]
  refine cal (Below_fn i 26 (by omega) (by omega)) ?_
  have b1 := Int.emod_nonneg i (b := 26) (by omega)
  have b2 := Int.emod_lt_of_pos i (b := 26) (by omega)
  have b3 := Int.emod_nonneg n (b := 26) (by omega)
  have b4 := Int.emod_lt_of_pos n (b := 26) (by omega)
  simp
  refine cal (Below_fn n 26 (by omega) (by omega)) ?_
  rw [wrap_id (by omega) (by omega), wrap8_id (by omega) (by omega)]
  simp
  rw [wrap_id (by omega) (by omega), wrap8_id (by omega) (by omega)]
  refine ops_b2s (b := 2) (xs := [97 + i % 26, 97 + n % 26]) rfl (by simp; exact rfl) (by simp) (by simp) rfl rfl (by simp) (by simp) (by first | exact rfl | simp) ?_
  have hsz : ¬ (9223372036854775807 : Int) < ((⟨#[110]⟩ : ByteArray).size : Int) + ((strOfNums [97 + i % 26, 97 + n % 26]).size : Int) := by
    rw [strOfNums_size]; simp [ByteArray.size]
  simp [hsz]
  obtain ⟨nm, hnm⟩ : ∃ nm, (⟨#[110]⟩ : Str) ++ strOfNums [97 + i % 26, 97 + n % 26] = nm := ⟨_, rfl⟩
  have hnm2 : nmM n i = nm := hnm
  rw [hnm2] at hm
  rw [hnm]
  refine awp_drawS follows_mix [(0, 0), (2, 0), (0, 0), (0, 0), (0, 0), (0, 0), (0, 0), (0, 0), (2, 0), (0, 0), (0, 0), (2, 0), (0, 0), (0, 0), (0, 0), (4, 3), (1, 0)] 3 4 [(0, 15), (1, 15), (2, 15), (3, 15), (4, 15), (5, 15), (6, 15), (7, 15), (8, 15), (9, 15), (10, 15), (11, 15), (12, 15), (13, 15), (14, 15)] (by kernel_rfl) rfl rfl ?_
  simp
  refine gE_call (kI (d % 7)) ?_ ?_
  · simp
    exact calO (Below_fn d 7 (by omega) (by omega))
  simp
  refine gE_call (kI (v % 12)) ?_ ?_
  · simp
    exact calO (Below_fn v 12 (by omega) (by omega))
  simp
  refine gE_call (kI (n % 30)) ?_ ?_
  · simp
    exact calO (Below_fn n 30 (by omega) (by omega))
  rw [wrap_id (by omega) (by omega)]
  simp
  rw [wrap_id (by omega) (by omega)]
  have htm : v.tmod 9 = v.tmod 9 := rfl
  by_cases h0 : x.Fields = []
  · have h0' : x.Fields.length = 0 := by rw [h0]; rfl
    rw [if_pos h0] at hm
    simp [h0']
    refine fin_fz 4 [kS ⟨#[113]⟩, kI 4, kI (v.tmod 9)] ?_
    simp
    exact finm (by simp [hm, GMove.e, GField.e, chunks, List.range, List.range.loop])
  · have h0' : 0 < x.Fields.length := List.length_pos_iff.2 h0
    rw [if_neg h0] at hm
    have hfx := hf x (hx ▸ List.getElem_mem hqk)
    have hv1 := Int.emod_nonneg v (b := (x.Fields.length : Int)) (by omega)
    have hv2 := Int.emod_lt_of_pos v (b := (x.Fields.length : Int)) (by omega)
    obtain ⟨y, hy⟩ : ∃ y : Nat, v % (x.Fields.length : Int) = y := ⟨(v % (x.Fields.length : Int)).toNat, by omega⟩
    have hyl : y < x.Fields.length := by omega
    have hg : (x.Fields.getD (v % (x.Fields.length : Int)).toNat f0).Name = (x.Fields[y]).Name := by simp [hy, List.getD, hyl]
    rw [hg] at hm
    simp [h0']
    refine awp_draw follows_mix [] [(0, [0]), (0, [0]), (0, [0]), (0, [0]), (0, [0]), (0, [0]), (2, [0]), (0, [0]), (0, [0]), (0, [0]), (0, [0]), (1, [0])] 1 (by kernel_rfl) rfl ?_
    simp
    refine gD_call (kI y) ?_
    simp [hyl]
    refine ⟨hy ▸ calO (Below_fn v x.Fields.length (by omega) (by omega)), ?_⟩
    refine fin_fz 4 [kS ⟨#[113]⟩, kI 4, kI (v.tmod 9)] ?_
    simp
    exact finm (by simp [hm, GMove.e, GField.e, chunks, List.range, List.range.loop])
end Go.Proofs.Ytbddlekpoelmkaa.Am
