/- Package sum: digests of bytes. -/
import Derived.Test.YtemlkbcfplkniaaSv10
set_option linter.unusedVariables false
set_option linter.unusedSimpArgs false
namespace Go.Proofs.Ytemlkbcfplkniaa.Am
open Go Go.RowKit

/-- Bytes as a number, the lowest one first. -/
def leW : List Int → Int
  | [] => 0
  | c :: r => c + 256 * leW r
def digGo : Nat → Int → List Int → Int
  | 0, d, _ => d
  | k + 1, d, l => if l = [] then d else digGo k (joinM d (leW (l.take 8))) (l.drop 8)
def digB (l : List Int) : Int := digGo l.length (joinM 11170449401992604703 l.length) l
def BytesOk (l : List Int) : Prop := ∀ c ∈ l, 0 ≤ c ∧ c < 256
theorem leW_lt : ∀ {l : List Int}, BytesOk l → 0 ≤ leW l ∧ leW l < 256 ^ l.length
  | [], _ => by simp [leW]
  | c :: r, h => by
    have h1 := h c (by simp)
    have h2 := leW_lt (l := r) fun x hx => h x (by simp [hx])
    rw [leW, List.length_cons, Int.pow_succ]
    omega
theorem leW_snoc : ∀ (l : List Int) (c : Int), leW (l ++ [c]) = leW l + c * 256 ^ l.length
  | [], c => by simp [leW]
  | x :: l, c => by
    rw [List.cons_append, leW, leW_snoc l c, leW, List.length_cons, Int.pow_succ]
    rw [Int.mul_add, Int.add_assoc]
    congr 2
    rw [Int.mul_left_comm, Int.mul_comm 256]
theorem digGo_nil (k : Nat) (d : Int) : digGo k d [] = d := by cases k <;> simp [digGo]

/-- More fuel than there are bytes makes no difference. -/
theorem digGo_mono : ∀ (m k : Nat) (l : List Int), l.length ≤ m → l.length ≤ k → ∀ d, digGo m d l = digGo k d l
  | 0, k, l, h, _, d => by
    obtain rfl : l = [] := List.length_eq_zero_iff.1 (by omega)
    rw [digGo_nil, digGo_nil]
  | m + 1, 0, l, _, h, d => by
    obtain rfl : l = [] := List.length_eq_zero_iff.1 (by omega)
    rw [digGo_nil, digGo_nil]
  | m + 1, k + 1, l, h1, h2, d => by
    rw [digGo, digGo]
    split
    · rfl
    · exact digGo_mono m k (l.drop 8) (by simp; have := List.length_pos_iff.2 ‹¬ l = []›; omega) (by simp; have := List.length_pos_iff.2 ‹¬ l = []›; omega) _

theorem or_word (x c : Int) (i : Nat) (hi : i < 8) (hx : 0 ≤ x) (hx2 : x < 256 ^ i) (hc : 0 ≤ c) (hc2 : c < 256) :
    IntKind.u64.wrap ↑((x % 2 ^ IntKind.u64.bits).toNat ||| (IntKind.u64.wrap (c * 2 ^ min (8 * i) IntKind.u64.bits) % 2 ^ IntKind.u64.bits).toNat) = x + c * 256 ^ i := by
  have e1 : min (8 * i) IntKind.u64.bits = 8 * i := Nat.min_eq_left (by show 8 * i ≤ 64; omega)
  have e2 : (2 : Int) ^ IntKind.u64.bits = 18446744073709551616 := by decide
  have e3 : (2 : Int) ^ (8 * i) = 256 ^ i := by rw [Int.pow_mul]; rfl
  obtain ⟨xn, rfl⟩ := Int.eq_ofNat_of_zero_le hx
  obtain ⟨cn, rfl⟩ := Int.eq_ofNat_of_zero_le hc
  have hx3 : xn < 2 ^ (8 * i) := by
    have : ((xn : Nat) : Int) < ((2 ^ (8 * i) : Nat) : Int) := by rw [Int.natCast_pow]; rw [e3.symm] at hx2; exact hx2
    omega
  have hp : (2 : Nat) ^ (8 * i) * 256 ≤ 2 ^ 64 := by
    have : (2 : Nat) ^ (8 * i) * 256 = 2 ^ (8 * i + 8) := by rw [Nat.pow_add]
    rw [this]; exact Nat.pow_le_pow_right (by decide) (by omega)
  have hcn : cn < 256 := by omega
  have hcp : cn * 2 ^ (8 * i) + 2 ^ (8 * i) ≤ 2 ^ 64 := by
    have : (cn + 1) * 2 ^ (8 * i) ≤ 256 * 2 ^ (8 * i) := Nat.mul_le_mul_right _ (by omega)
    rw [Nat.add_mul] at this
    omega
  have hcast : ((cn : Int) * 256 ^ i) = ((cn * 2 ^ (8 * i) : Nat) : Int) := by rw [← e3]; push_cast; rfl
  rw [e1, e2, e3, hcast]
  have hor := Nat.two_pow_add_eq_or_of_lt hx3 cn
  rw [Nat.mul_comm] at hor
  obtain ⟨q, hq⟩ : ∃ q, cn * 2 ^ (8 * i) = q := ⟨_, rfl⟩
  obtain ⟨p2, hp2⟩ : ∃ p2, 2 ^ (8 * i) = p2 := ⟨_, rfl⟩
  rw [hq] at hcp hor ⊢
  rw [hp2] at hcp hx3
  simp only [wrapU]
  have a1 : ((xn : Int) % 18446744073709551616).toNat = xn := by omega
  have a2 : ((q : Int) % 18446744073709551616 % 18446744073709551616).toNat = q := by omega
  rw [a1, a2, Nat.or_comm, ← hor]
  omega

set_option maxRecDepth 20000 in
set_option maxHeartbeats 1000000 in
theorem SumBytes_fn (l : List Int) (hl : l.length ≤ 1000000) (hb : BytesOk l) : Fn Try.prog 90 [slB l] (kU (digB l)) := by
  refine fn_go Try.func90 rfl ?_
  have hu : IntKind.u64.wrap (l.length : Int) = l.length := by rw [wrapU]; omega
  simp [Try.ntmps90, hu]
  refine cal (Join_fn 11170449401992604703 l.length) ?_
  simp
  refine awp_loop (fun x : List Int × Int => ⟨42, [(0, slB x.1), (3, kU x.2)], [], 0⟩) (fun x => x.1.length ≤ 1000000 ∧ BytesOk x.1 ∧ digGo x.1.length x.2 x.1 = digB l) (fun x => x.1.length) (l, joinM 11170449401992604703 l.length) ?_ ?_ ?_
  · exact entm []
  · exact ⟨hl, hb, rfl⟩
  · rintro ⟨r, d⟩ ⟨hr, hrb, hrun⟩
    simp only at hr hrb hrun
    refine awp_go ?_
    by_cases hnil : r = []
    · subst hnil
      simp [digGo] at hrun
      subst hrun
      simp
      exact finm
    · have hpos : 0 < r.length := List.length_pos_iff.2 hnil
      have hpos' : 0 < (r.length : Int) := by omega
      obtain ⟨n, hn, hn1, hn2, hn3⟩ : ∃ n : Nat, (if 8 < (r.length : Int) then (8 : Int) else r.length) = n ∧ n ≤ r.length ∧ n ≤ 8 ∧ (r.take 8 = r.take n ∧ r.drop 8 = r.drop n ∧ 0 < n) := by
        by_cases h8 : 8 < r.length
        · exact ⟨8, by rw [if_pos (by omega)]; rfl, by omega, by omega, rfl, rfl, by omega⟩
        · exact ⟨r.length, by rw [if_neg (by omega)], by omega, by omega, by rw [List.take_of_length_le (by omega), List.take_length], by rw [List.drop_of_length_le (by omega), List.drop_length], hpos⟩
      have hn4 : (n : Int) ≤ r.length := by omega
      obtain ⟨k, hk⟩ : ∃ k, r.length = k + 1 := ⟨r.length - 1, by omega⟩
      rw [hk, digGo, if_neg hnil, hn3.1, hn3.2.1] at hrun
      simp [hpos, hn, hn4]
      rw [← List.map_take, Nat.min_eq_left hn1]
      obtain ⟨q, hq⟩ : ∃ q, r.take n = q := ⟨_, rfl⟩
      have hql : q.length = n := by rw [← hq]; simp; omega
      have hqb : BytesOk q := fun c hc => hrb c (List.mem_of_mem_take (hq ▸ hc))
      rw [hq] at hrun ⊢
      refine awp_loop (fun j : Nat => ⟨42, [(0, slB r), (3, kU d), (4, kU (leW (q.take j))), (18, slB q), (19, kI n), (20, kI j)], [], 0⟩) (fun j => j ≤ n) (fun j => n - j) 0 ?_ ?_ ?_
      · exact entm [] (hT := by simp [leW])
      · simp
      · intro j hj
        refine awp_go ?_
        by_cases hjl : j < n
        · have hjq : j < q.length := by omega
          obtain ⟨c, hc⟩ : ∃ c, q[j] = c := ⟨_, rfl⟩
          obtain ⟨hc1, hc2⟩ := hqb c (hc ▸ List.getElem_mem hjq)
          have htk : q.take (j + 1) = q.take j ++ [c] := by rw [List.take_add_one, List.getElem?_eq_getElem hjq, hc]; rfl
          have hls := leW_snoc (q.take j) c
          have hlt := leW_lt (l := q.take j) fun x hx => hqb x (List.mem_of_mem_take hx)
          have htl : (q.take j).length = j := by simp; omega
          rw [htl] at hls hlt
          have hor := or_word (leW (q.take j)) c j (by omega) hlt.1 hlt.2 hc1 hc2
          have hw1 : IntKind.i64.wrap (8 * (j : Int)) = ((8 * j : Nat) : Int) := by rw [wrap_id (by omega) (by omega)]; omega
          have hw2 : IntKind.i64.wrap ((j : Int) + 1) = ((j + 1 : Nat) : Int) := wrap_id (by omega) (by omega)
          have hw3 : IntKind.u64.wrap c = c := by rw [wrapU]; omega
          have hw4 : ¬ 8 * (j : Int) < 0 := by omega
          have hw5 : (8 * (j : Int)).toNat = 8 * j := by omega
          simp [hjl, hjq, hc, hw1, hw2, hw3, hw4, hw5]
          rw [hor]
          exact ⟨j + 1, by omega, by omega, entm [] (hT := by simp [htk, hls])⟩
        · obtain rfl : j = n := by omega
          have htq : q.take j = q := List.take_of_length_le (by omega)
          rw [htq]
          simp
          refine awp_drawS follows_mix [(0, 0), (0, 0), (2, 0), (0, 0), (0, 0), (0, 0), (0, 0), (0, 0), (0, 0), (0, 0)] 0 0 [] (by kernel_rfl) rfl rfl ?_
          simp [hn, hn4]
          refine gE_call (kU (joinM d (leW q))) ?_ ?_
          · simp
            exact calO (Join_fn d (leW q))
          have htr : List.take r.length (r.map fun n => [PV.k (.int .u8 n)]) = r.map fun n => [PV.k (.int .u8 n)] := List.take_of_length_le (by simp)
          simp [hn, hn4, htr]
          have hdl : (r.drop j).length = k + 1 - j := by rw [List.length_drop, hk]
          refine ⟨r.drop j, joinM d (leW q), ⟨by omega, fun c hc => hrb c (List.mem_of_mem_drop hc), ?_⟩, by omega, entm [] (hT := by simp)⟩
          rw [hdl, ← hrun]
          exact digGo_mono _ _ _ (by omega) (by omega) _
end Go.Proofs.Ytemlkbcfplkniaa.Am
