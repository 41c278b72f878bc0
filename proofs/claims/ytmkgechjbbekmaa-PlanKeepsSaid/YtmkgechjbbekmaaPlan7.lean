/- Package plan: a right division into layers is found right. -/
import Derived.Test.YtmkgechjbbekmaaPlan2
import Derived.Test.YtmkgechjbbekmaaKind6
set_option linter.unusedVariables false
set_option linter.unusedSimpArgs false
namespace Go.Proofs.Ytmkgechjbbekmaa.Am
open Go Go.RowKit

def atB (n : Nat) (f : Nat → Int) (P : List Int) : List Int := (List.range n).map fun k : Nat => if (k : Int) ∈ P then f k else 0
@[simp] theorem atB_len (n : Nat) (f : Nat → Int) (P : List Int) : (atB n f P).length = n := by simp [atB]
theorem atB_get (n : Nat) (f : Nat → Int) (P : List Int) (k : Nat) (h : k < n) : (atB n f P)[k]? = some (if (k : Int) ∈ P then f k else 0) := by simp [atB, h]
theorem atB_set (n : Nat) (f : Nat → Int) (P : List Int) (k : Nat) (h : k < n) : (atB n f P).set k (f k) = atB n f (P ++ [(k : Int)]) := by
  refine List.ext_getElem? fun j => ?_
  rw [List.getElem?_set]
  rcases Nat.lt_or_ge j n with hj | hj
  · rw [atB_get _ _ _ j hj, atB_get _ _ _ j hj]
    by_cases e : k = j
    · subst e; simp [h]
    · have : ¬ ((j : Int) = k) := by omega
      simp [e, this]
  · rw [List.getElem?_eq_none (by simpa using hj), List.getElem?_eq_none (by simpa using hj), if_neg (by omega)]
/-- A right division: f tells the layer of each system. -/
structure RightL (l : List GSystem) (rows : List (List Int)) (f : Nat → Int) : Prop where
  nodup : rows.flatten.Nodup
  mem : ∀ (d : Nat) (row : List Int), rows[d]? = some row → ∀ x ∈ row, ∃ k : Nat, x = k ∧ k < l.length ∧ f k = d + 1
  all : ∀ k : Nat, k < l.length → (k : Int) ∈ rows.flatten
  len : rows.flatten.length = l.length
  up : ∀ (d : Nat) (row : List Int), rows[d]? = some row → ∀ (i : Nat) (h : i + 1 < row.length), row[i]'(by omega) < row[i + 1]
  conf : ∀ i j, j < i → i < l.length → confAt l j i = true → f j < f i

set_option maxRecDepth 20000 in
set_option maxHeartbeats 1000000 in
theorem Right_fn (l : List GSystem) (rows : List (List Int)) (f : Nat → Int) (hl : l.length ≤ 24) (hr24 : rows.length ≤ 1000000) (hs : ∀ s ∈ l, SysLen s) (hR : RightL l rows f) :
    Fn Try.prog 39 [.sl 7 (l.map GSystem.e), .sl 1 (rows.map fun L => [slI L])] (kB true) := by
  refine fn_go Try.func39 rfl ?_
  have h1 : 8 * (l.length : Int) ≤ 281474976710656 := by omega
  have h2 : (l.length : Int) ≤ 9223372036854775807 := by omega
  simp [Try.ntmps39, h1, h2]
  have hsplit : ∀ d, rows.flatten = (rows.take d).flatten ++ (rows.drop d).flatten := fun d => by rw [← List.flatten_append, List.take_append_drop]
  refine awp_loop (fun x : Nat × List Int => ⟨102, [(0, .sl 7 (l.map GSystem.e)), (5, .osl 0 1 0 l.length), (6, kI x.2.length), (16, .sl 1 (rows.map fun L => [slI L])), (17, kI rows.length), (18, kI x.1)], [some ((atB l.length f x.2).map kI)], 0⟩)
    (fun x => x.1 ≤ rows.length ∧ x.2 = (rows.take x.1).flatten) (fun x => rows.length - x.1) (0, []) ?_ ?_ ?_
  · have e : (atB l.length f []).map kI = List.replicate l.length (kI 0) := by
      refine List.ext_getElem? fun k => ?_
      rcases Nat.lt_or_ge k l.length with hk | hk
      · rw [List.getElem?_map, atB_get _ _ _ k hk, List.getElem?_replicate, if_pos hk]; simp
      · rw [List.getElem?_eq_none (by simpa using hk), List.getElem?_eq_none (by simpa using hk)]
    exact entm [0] (hB := by simp [e])
  · exact ⟨by simp, rfl⟩
  · rintro ⟨d, P⟩ ⟨hd, hP⟩
    simp only at hd hP
    have hPl : P.length ≤ l.length := by
      have := congrArg List.length (hsplit d)
      rw [List.length_append, hR.len, ← hP] at this; omega
    refine awp_go ?_
    by_cases hlt : d < rows.length
    · obtain ⟨row, hrow⟩ : ∃ row, rows[d] = row := ⟨_, rfl⟩
      have hrow? : rows[d]? = some row := by rw [List.getElem?_eq_getElem hlt, hrow]
      have hnext : (rows.take (d + 1)).flatten = P ++ row := by
        rw [← List.take_append_getElem hlt, List.flatten_append, hP, hrow]; simp
      have hnd : (P ++ row).Nodup := by
        have := hR.nodup
        rw [hsplit (d + 1), hnext] at this
        exact (List.nodup_append.1 this).1
      have hrl : P.length + row.length ≤ l.length := by
        have := congrArg List.length (hsplit (d + 1))
        rw [List.length_append, hR.len, hnext, List.length_append] at this; omega
      simp [hlt, hrow]
      refine awp_loop (fun i : Nat => ⟨102, [(0, .sl 7 (l.map GSystem.e)), (5, .osl 0 1 0 l.length), (6, kI ((P.length : Int) + i)), (7, kI d), (8, slI row), (16, .sl 1 (rows.map fun L => [slI L])), (17, kI rows.length), (18, kI d), (23, slI row), (24, kI row.length), (25, kI i)], [some ((atB l.length f (P ++ row.take i)).map kI)], 0⟩)
        (fun i => i ≤ row.length) (fun i => row.length - i) 0 ?_ ?_ ?_
      · exact entm [0]
      · simp
      · intro i hi
        refine awp_go ?_
        by_cases hlti : i < row.length
        · obtain ⟨k, hk, hkl, hfk⟩ := hR.mem d row hrow? row[i] (List.getElem_mem hlti)
          have hnot : ¬ ((k : Int) ∈ P ++ row.take i) := by
            rw [← hk]
            intro hm
            have hnd2 : (P ++ row.take i ++ row.drop i).Nodup := by rw [List.append_assoc, List.take_append_drop]; exact hnd
            have := (List.nodup_append.1 hnd2).2.2 _ hm row[i] (by rw [List.drop_eq_getElem_cons hlti]; exact List.mem_cons_self ..)
            exact this rfl
          have hbk : (atB l.length f (P ++ row.take i))[k]? = some 0 := by rw [atB_get _ _ _ k hkl, if_neg hnot]
          have hset := atB_set l.length f (P ++ row.take i) k hkl
          have hrow2 : P ++ row.take i ++ [(k : Int)] = P ++ row.take (i + 1) := by rw [← hk, List.append_assoc, List.take_append_getElem hlti]
          rw [hrow2, hfk] at hset
          have hkl1 : k + 1 ≤ l.length := hkl
          have hk0 : ¬ ((k : Int) < 0) := by omega
          have hnk : ¬ ((l.length : Int) ≤ k) := by omega
          obtain ⟨B, hB⟩ : ∃ B, atB l.length f (P ++ row.take i) = B := ⟨_, rfl⟩
          have hBl : k + 1 ≤ B.length := by rw [← hB, atB_len]; exact hkl
          have hset1 : (B.map kI).take k ++ kI ((d : Int) + 1) :: (B.map kI).drop (k + 1) = (B.set k ((d : Int) + 1)).map kI := set_ints (by omega) _
          rw [hB] at hbk hset ⊢
          rw [hset] at hset1
          have hw1 : IntKind.i64.wrap ((d : Int) + 1) = (d : Int) + 1 := wrap_id (by omega) (by omega)
          have hw2 : IntKind.i64.wrap ((P.length : Int) + (i : Int) + 1) = (P.length : Int) + ((i + 1 : Nat) : Int) := by rw [wrap_id (by omega) (by omega)]; omega
          have hw3 : IntKind.i64.wrap ((i : Int) + 1) = ((i + 1 : Nat) : Int) := by rw [wrap_id (by omega) (by omega)]; omega
          by_cases hi0 : i = 0
          · subst hi0
            simp at hk hw2
            simp [hlti, hk, hkl, hnk, hbk, hk0, hBl, hset1, hw1, hw2]
            exact ⟨1, by omega, by omega, entm [0]⟩
          · obtain ⟨m, rfl⟩ : ∃ m, i = m + 1 := ⟨i - 1, by omega⟩
            have hup := hR.up d row hrow? m hlti
            rw [hk] at hup
            have hlm : m < row.length := by omega
            have hwm : IntKind.i64.wrap (m : Int) = m := wrap_id (by omega) (by omega)
            have hge : ¬ ((k : Int) ≤ row[m]) := by omega
            have hmi : (m : Int) + 1 < row.length := by omega
            have hm0 : (0 : Int) < (m : Int) + 1 := by omega
            have hm1 : (0 : Int) ≤ (m : Int) + 1 := by omega
            have hrk : row[m + 1]? = some (k : Int) := by rw [List.getElem?_eq_getElem hlti, hk]
            simp at hw2 hw3
            simp [hlti, hmi, hm0, hm1, hk, hkl, hnk, hbk, hwm, hlm, hge, hk0, hBl, hset1, hw1, hw2, hw3]
            exact ⟨m + 1 + 1, by omega, by omega, entm [0]⟩
        · have hie : i = row.length := by omega
          subst hie
          simp
          rw [wrap_id (by omega) (by omega)]
          exact ⟨d + 1, P ++ row, ⟨by omega, hnext.symm⟩, by omega, entm [0]⟩
    · have hde : d = rows.length := by omega
      subst hde
      rw [List.take_length] at hP
      subst hP
      have hAll : atB l.length f rows.flatten = (List.range l.length).map f := by
        unfold atB
        refine List.map_congr_left fun k hk => ?_
        simp at hk
        rw [if_pos (hR.all k hk)]
      have hgt : ∀ k, k < l.length → ((List.range l.length).map f)[k]? = some (f k) := fun k hk => by simp [hk]
      have hlen := hR.len
      rw [hAll]
      simp only [List.length_flatten] at hlen
      obtain ⟨B, hB⟩ : ∃ B, (List.range l.length).map f = B := ⟨_, rfl⟩
      rw [hB] at hgt ⊢
      simp [hlen]
      refine awp_loop (fun i : Nat => ⟨102, [(0, .sl 7 (l.map GSystem.e)), (5, .osl 0 1 0 l.length), (72, kI l.length), (73, kI i)], [some (B.map kI)], 0⟩) (fun i => i ≤ l.length) (fun i => l.length - i) 0 ?_ ?_ ?_
      · exact entm [0]
      · simp
      · intro i hi
        refine awp_go ?_
        by_cases hlti : i < l.length
        · simp [hlti]
          refine awp_loop (fun j : Nat => ⟨102, [(0, .sl 7 (l.map GSystem.e)), (5, .osl 0 1 0 l.length), (11, kI i), (72, kI l.length), (73, kI i), (76, kI i), (77, kI j)], [some (B.map kI)], 0⟩) (fun j => j ≤ i) (fun j => i - j) 0 ?_ ?_ ?_
          · exact entm [0]
          · simp
          · intro j hj
            refine awp_go ?_
            by_cases hji : j < i
            · have hjl : j < l.length := by omega
              have ecf : confAt l j i = conflB l[j] l[i] := by simp [confAt, List.getD, hjl, hlti]
              have gi := hgt i hlti
              have gj := hgt j hjl
              simp [hji]
              refine awp_draw follows_mix [] [(0, [0]), (0, [0]), (0, [0]), (0, [0]), (0, [0]), (0, [0]), (0, [0]), (0, [0]), (2, [0]), (0, [0]), (0, [0]), (0, [0]), (0, [0]), (0, [0]), (0, [0]), (0, [0]), (0, [0]), (0, [0]), (0, [0]), (0, [0])] 0 (by kernel_rfl) rfl ?_
              simp [hlti, hjl]
              refine gD_call (kB (confAt l j i)) ?_
              by_cases hc : confAt l j i = true
              · have hlt2 := hR.conf i j hji hlti hc
                have hge : ¬ (f i ≤ f j) := by omega
                simp [hlti, hjl, hc, gi, gj, hge]
                refine ⟨by rw [← hc, ecf]; exact calO (Conflict_fn l[j] l[i] (hs _ (List.getElem_mem hjl)) (hs _ (List.getElem_mem hlti))), ?_⟩
                rw [wrap_id (by omega) (by omega)]
                exact ⟨j + 1, by omega, by omega, entm [0]⟩
              · simp only [Bool.not_eq_true] at hc
                simp [hlti, hjl, hc]
                refine ⟨by rw [← hc, ecf]; exact calO (Conflict_fn l[j] l[i] (hs _ (List.getElem_mem hjl)) (hs _ (List.getElem_mem hlti))), ?_⟩
                rw [wrap_id (by omega) (by omega)]
                exact ⟨j + 1, by omega, by omega, entm [0]⟩
            · simp [hji]
              rw [wrap_id (by omega) (by omega)]
              exact ⟨i + 1, by omega, by omega, entm [0]⟩
        · simp [hlti]
          exact finm
end Go.Proofs.Ytmkgechjbbekmaa.Am
