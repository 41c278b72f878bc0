/- The machine of values: a new box is moved to a place that waits for it. -/
import Derived.Test.YtmkgechjbbekmaaAm19
set_option linter.unusedVariables false
set_option linter.unusedSimpArgs false
namespace Go.Proofs.Ytmkgechjbbekmaa.Am
open Go Go.RowKit

theorem VRel.mono' {n n' : Nat} {ι ι' : Nat → Option Nat} {S S' : Nat → Prop} {w w' : World} (hn : n ≤ n') (hι : ∀ b x, b < n → ι b = some x → ι' b = some x) (hS : ∀ b, S b → S' b)
    (hc : ∀ b o, S b → w'.cell? ⟨b, o, none⟩ = w.cell? ⟨b, o, none⟩) (hsh : ∀ b x, w.shape? b = some x → w'.shape? b = some x) {v : Value} {p : PV} (h : VRel n ι S w v p) : VRel n' ι' S' w' v p := by
  induction h with
  | imm h => exact .imm (h.mono hS hc)
  | osl h1 h2 h3 h4 h5 h6 => exact .osl (by omega) h2 h3 (hι _ _ h1 h4) (hsh _ _ h5) h6
  | osl0 h => exact .osl0 (by omega)
  | ptr h h2 => exact .ptr (by omega) (hι _ _ h h2)
  | clo h1 h2 _ ih => exact .clo h1 h2 ih
  | agg h1 h2 _ ih => exact .agg h1 h2 ih
  | tup h1 _ ih => exact .tup h1 ih

theorem ltL_of {n : Nat} {ps : List PV} (h : ∀ (j : Nat) (p : PV), ps[j]? = some p → p.lt n = true) : ltL n ps = true := by
  rw [ltL_all, List.all_eq_true]
  intro p hp
  obtain ⟨j, hj, rfl⟩ := List.getElem_of_mem hp
  exact h j _ (List.getElem?_eq_getElem hj)

theorem IRel.lt {S : Nat → Prop} {w : World} {n : Nat} {v : Value} {p : PV} (h : IRel S w v p) : p.lt n = true := by
  induction h with
  | k h => rfl
  | sl g h1 h2 h3 h4 h5 h6 h7 h8 _ => rfl
  | eptr g h1 h2 h3 h4 _ => rfl
  | clo h1 h2 _ ih => simp only [PV.lt]; exact ltL_of ih
  | agg h1 h2 _ ih => simp only [PV.lt]; exact ltL_of ih
  | tup h1 _ ih => simp only [PV.lt]; exact ltL_of ih

theorem VRel.lt {n : Nat} {ι : Nat → Option Nat} {S : Nat → Prop} {w : World} {v : Value} {p : PV} (h : VRel n ι S w v p) : p.lt n = true := by
  induction h with
  | imm h => exact h.lt
  | osl h1 _ _ _ _ _ => simpa [PV.lt] using h1
  | osl0 h => simpa [PV.lt] using h
  | ptr h _ => simpa [PV.lt] using h
  | clo h1 h2 _ ih => simp only [PV.lt]; exact ltL_of ih
  | agg h1 h2 _ ih => simp only [PV.lt]; exact ltL_of ih
  | tup h1 _ ih => simp only [PV.lt]; exact ltL_of ih

mutual
theorem ren_id : (p : PV) → p.ren (fun b => b) = p
  | .k _ | .sl _ _ | .eptr _ | .osl _ _ _ _ | .ptr _ _ => rfl
  | .clo fn caps => by simp only [PV.ren]; rw [renL_id caps]
  | .agg cs => by simp only [PV.ren]; rw [renL_id cs]
  | .tup ps => by simp only [PV.ren]; rw [renL_id ps]
theorem renL_id : (ps : List PV) → renL (fun b => b) ps = ps
  | [] => rfl
  | p :: ps => by simp only [renL]; rw [ren_id p, renL_id ps]
end

/-- Of less boxes, what names none of the others. -/
theorem VRel.less {n m : Nat} {ι : Nat → Option Nat} {S : Nat → Prop} {w : World} {v : Value} {p : PV} (h : VRel m ι S w v p) (hl : p.lt n = true) : VRel n ι S w v p :=
  VRel.unren (θ := fun b => b) (fun _ _ => rfl) p v hl (by rw [ren_id]; exact h)

/-- The place j, now the box M. -/
def mvθ (j M : Nat) : Nat → Nat := fun b => if b = j then M else b

theorem Store.move {c : Ctx} {ι : Nat → Option Nat} {S : Nat → Prop} {σk : Boxes} {d : Nat} {cs : List PV} {w : World} (h : Store c ι S (σk ++ List.replicate d none ++ [some cs]) w) {j : Nat} (hj : j < σk.length) (hck : c.k ≤ j)
    (hιj : ι j = none) (hlt : ∀ i ci, box σk i = some ci → ltL σk.length ci = true) (hcs : ltL σk.length cs = true) :
    ∃ ι', Store c ι' S (σk.set j (some cs)) w ∧ (∀ v p, p.lt σk.length = true → VRel (σk.length + d + 1) ι S w v p → VRel σk.length ι' S w v p) ∧
      (∀ v p, p.lt σk.length = true → VRel (σk.length + d + 1) ι S w v (p.ren (mvθ j (σk.length + d))) → VRel σk.length ι' S w v p) ∧ (∀ b, b < σk.length → b ≠ j → ι' b = ι b) := by
  have hlen : (σk ++ List.replicate d none ++ [some cs]).length = σk.length + d + 1 := by simp; omega
  let ι' : Nat → Option Nat := fun b => if b = j then ι (σk.length + d) else if b < σk.length then ι b else none
  have hb1 : ∀ i ci, box σk i = some ci → box (σk ++ List.replicate d none ++ [some cs]) i = some ci := fun i ci hi => by
    have := box_lt hi
    unfold box at hi ⊢
    rw [List.append_assoc, List.getElem?_append_left this]; exact hi
  have hb2 : box (σk ++ List.replicate d none ++ [some cs]) (σk.length + d) = some cs := by
    unfold box
    rw [List.getElem?_append_right (by simp)]
    simp
  have hv1 : ∀ v p, p.lt σk.length = true → VRel (σk.length + d + 1) ι S w v p → VRel σk.length ι' S w v p := fun v p hp hv =>
    (hv.less hp).mono' (Nat.le_refl _) (fun b x hb hx => by
      simp only [ι']
      have : b ≠ j := fun e => by rw [e, hιj] at hx; cases hx
      rw [if_neg this, if_pos hb]; exact hx) (fun _ h => h) (fun _ _ _ => rfl) (fun _ _ h => h)
  have hv2 : ∀ v p, p.lt σk.length = true → VRel (σk.length + d + 1) ι S w v (p.ren (mvθ j (σk.length + d))) → VRel σk.length ι' S w v p := fun v p hp hv =>
    VRel.unren (θ := mvθ j (σk.length + d)) (fun b hb => by
      simp only [mvθ, ι']
      by_cases e : b = j
      · rw [if_pos e, if_pos e]
      · rw [if_neg e, if_neg e, if_pos hb]) p v hp hv
  have hcase : ∀ i ci, box (σk.set j (some cs)) i = some ci → (i = j ∧ ci = cs) ∨ (i ≠ j ∧ i < σk.length ∧ box σk i = some ci) := fun i ci hi => by
    rw [box_set hj] at hi
    by_cases e : i = j
    · rw [if_pos e] at hi; simp at hi; exact .inl ⟨e, hi.symm⟩
    · rw [if_neg e] at hi; exact .inr ⟨e, box_lt hi, hi⟩
  have hι1 : ι' j = ι (σk.length + d) := by simp [ι']
  have hι2 : ∀ i, i ≠ j → i < σk.length → ι' i = ι i := fun i h1 h2 => by simp [ι', h1, h2]
  refine ⟨ι', ⟨h.os, h.tape, h.output, h.size, h.old, h.shape, fun i ci hi => ?_, fun i ci blk hi hb => ?_, fun i ci blk hi hb => ?_, fun i i' ci ci' blk hi hi' hb hb' => ?_, h.Slt, h.S0, h.Snew, by rw [List.length_set]; omega, fun i hi => ?_⟩, hv1, hv2, fun b hb hne => hι2 b hne hb⟩
  · rw [List.length_set]
    rcases hcase i ci hi with ⟨rfl, rfl⟩ | ⟨h1, h2, h3⟩
    · rcases h.boxes _ _ hb2 with ⟨g1, g2⟩ | ⟨blk, c', e, g1, g2, g3, g4⟩
      · exact .inl ⟨by rw [hι1]; exact g1, g2⟩
      · refine .inr ⟨blk, c', e, by rw [hι1]; exact g1, g2, g3, fun jj p hp => ?_⟩
        obtain ⟨v, hv, hr⟩ := g4 jj p hp
        rw [hlen] at hr
        exact ⟨v, hv, hv1 _ _ (by rw [ltL_all] at hcs; exact List.all_eq_true.1 hcs p (List.mem_of_getElem? hp)) hr⟩
    · rcases h.boxes _ _ (hb1 i ci h3) with ⟨g1, g2⟩ | ⟨blk, c', e, g1, g2, g3, g4⟩
      · exact .inl ⟨by rw [hι2 i h1 h2]; exact g1, g2⟩
      · refine .inr ⟨blk, c', e, by rw [hι2 i h1 h2]; exact g1, g2, g3, fun jj p hp => ?_⟩
        obtain ⟨v, hv, hr⟩ := g4 jj p hp
        rw [hlen] at hr
        have := hlt i ci h3
        exact ⟨v, hv, hv1 _ _ (by rw [ltL_all] at this; exact List.all_eq_true.1 this p (List.mem_of_getElem? hp)) hr⟩
  · rcases hcase i ci hi with ⟨rfl, rfl⟩ | ⟨h1, h2, h3⟩
    · exact h.notS _ _ blk hb2 (by rw [← hι1]; exact hb)
    · exact h.notS _ _ blk (hb1 i ci h3) (by rw [← hι2 i h1 h2]; exact hb)
  · rcases hcase i ci hi with ⟨rfl, rfl⟩ | ⟨h1, h2, h3⟩
    · exact h.live _ _ blk hb2 (by rw [← hι1]; exact hb)
    · exact h.live _ _ blk (hb1 i ci h3) (by rw [← hι2 i h1 h2]; exact hb)
  · rcases hcase i ci hi with ⟨rfl, rfl⟩ | ⟨h1, h2, h3⟩ <;> rcases hcase i' ci' hi' with ⟨rfl, rfl⟩ | ⟨k1, k2, k3⟩
    · rfl
    · have := h.inj _ _ _ _ blk hb2 (hb1 i' ci' k3) (by rw [← hι1]; exact hb) (by rw [← hι2 i' k1 k2]; exact hb')
      omega
    · have := h.inj _ _ _ _ blk (hb1 i ci h3) hb2 (by rw [← hι2 i h1 h2]; exact hb) (by rw [← hι1]; exact hb')
      omega
    · exact h.inj _ _ _ _ blk (hb1 i ci h3) (hb1 i' ci' k3) (by rw [← hι2 i h1 h2]; exact hb) (by rw [← hι2 i' k1 k2]; exact hb')
  · rw [hι2 i (by omega) (by omega)]; exact h.kι i hi

/-- Places are laid out. -/
theorem Store.pad {c : Ctx} {ι : Nat → Option Nat} {S : Nat → Prop} {σ : Boxes} {w : World} (h : Store c ι S σ w) (m : Nat) :
    ∃ ι', Store c ι' S (σ ++ List.replicate m none) w ∧ (∀ v p, VRel σ.length ι S w v p → VRel (σ ++ List.replicate m none).length ι' S w v p) ∧ (∀ b, σ.length ≤ b → ι' b = none) := by
  let ι' : Nat → Option Nat := fun b => if b < σ.length then ι b else none
  have hι : ∀ b, b < σ.length → ι' b = ι b := fun b hb => by simp [ι', hb]
  have hb : ∀ i ci, box (σ ++ List.replicate m none) i = some ci → i < σ.length ∧ box σ i = some ci := fun i ci hi => by
    unfold box at hi ⊢
    rcases Nat.lt_or_ge i σ.length with g | g
    · rw [List.getElem?_append_left g] at hi; exact ⟨g, hi⟩
    · rw [List.getElem?_append_right g, List.getElem?_replicate] at hi
      split at hi <;> simp at hi
  have hv : ∀ v p, VRel σ.length ι S w v p → VRel (σ ++ List.replicate m none).length ι' S w v p := fun v p hv =>
    hv.mono (by simp) (fun b hb => hι b hb) (fun _ h => h) (fun _ _ _ => rfl) (fun _ _ h => h)
  refine ⟨ι', ⟨h.os, h.tape, h.output, h.size, h.old, h.shape, fun i ci hi => ?_, fun i ci blk hi hx => ?_, fun i ci blk hi hx => ?_, fun i i' ci ci' blk hi hi' hx hx' => ?_, h.Slt, h.S0, h.Snew, by have := h.klen; simp; omega, fun i hi => ?_⟩, hv, fun b hb => by simp [ι']; omega⟩
  · obtain ⟨h1, h2⟩ := hb i ci hi
    rw [hι i h1]
    rcases h.boxes i ci h2 with g | ⟨blk, c', e, g1, g2, g3, g4⟩
    · exact .inl g
    · exact .inr ⟨blk, c', e, g1, g2, g3, fun j p hj => by obtain ⟨v, hv1, hv2⟩ := g4 j p hj; exact ⟨v, hv1, hv _ _ hv2⟩⟩
  · obtain ⟨h1, h2⟩ := hb i ci hi; exact h.notS i ci blk h2 (by rw [← hι i h1]; exact hx)
  · obtain ⟨h1, h2⟩ := hb i ci hi; exact h.live i ci blk h2 (by rw [← hι i h1]; exact hx)
  · obtain ⟨h1, h2⟩ := hb i ci hi
    obtain ⟨k1, k2⟩ := hb i' ci' hi'
    exact h.inj i i' ci ci' blk h2 k2 (by rw [← hι i h1]; exact hx) (by rw [← hι i' k1]; exact hx')
  · have := h.klen; rw [hι i (by omega)]; exact h.kι i hi
end Go.Proofs.Ytmkgechjbbekmaa.Am
