/- The machine of values: append does what it says; make; slice literals. -/
import Derived.Test.YtmkgechjbbekmaaAm8
set_option linter.unusedVariables false
set_option linter.unusedSimpArgs false
namespace Go.Proofs.Ytmkgechjbbekmaa.Am
open Go Go.RowKit

section
variable {P : Program} {c : Ctx} {ι : Nat → Option Nat} {S : Nat → Prop} {s : St} {a : Act} {w : World} {n : Nat} {σ : Boxes}

/-- A box is forgotten. -/
theorem Store.kill (h : Store c ι S σ w) (b : Nat) : Store c ι S (σ.set b none) w := by
  have hs : ∀ i ci, box (σ.set b none) i = some ci → box σ i = some ci := fun i ci hi => by
    rcases Nat.lt_or_ge b σ.length with hb | hb
    · rw [box_set hb] at hi
      split at hi
      · simp at hi
      · exact hi
    · rw [List.set_eq_of_length_le hb] at hi; exact hi
  exact ⟨h.os, h.tape, h.output, h.size, h.old, h.shape, fun i ci hi => by rw [List.length_set]; exact h.boxes i ci (hs i ci hi), fun i ci blk hi => h.notS i ci blk (hs i ci hi), fun i ci blk hi => h.live i ci blk (hs i ci hi), fun i j ci cj blk hi hj => h.inj i j ci cj blk (hs i ci hi) (hs j cj hj), h.Slt, h.S0, h.Snew, by rw [List.length_set]; exact h.klen, h.kι⟩

/-- A block that no box has is written. -/
theorem Store.poke (h : Store c ι S σ w) {blk : Nat} (hS : ¬ S blk) (hM : c.M blk ∨ c.w0.heap.size ≤ blk) (hfree : ∀ i ci, box σ i = some ci → ι i ≠ some blk) (off : Nat) (vs : List Value) :
    Store c ι S σ (w.setCells blk off vs) ∧ (∀ m v p, VRel m ι S w v p → VRel m ι S (w.setCells blk off vs) v p) := by
  have hv : ∀ m v p, VRel m ι S w v p → VRel m ι S (w.setCells blk off vs) v p := fun m v p hh =>
    hh.mono (Nat.le_refl _) (fun b hb => rfl) (fun _ h => h) (fun b' o hb' => World.cell?_of_block (heap_setCells_other _ _ (fun e : b' = blk => hS (by rw [← e]; exact hb')) _ _ _)) (fun b x hx => shape_setCells _ _ _ _ _ _ hx)
  obtain ⟨r1, r2, r3⟩ := setCells_rest blk vs off w
  refine ⟨⟨r1.trans h.os, r2.trans h.tape, r3.trans h.output, by rw [setCells_size]; exact h.size, fun k hk hkM => ?_, fun q x hx => shape_setCells _ _ _ _ _ _ (h.shape q x hx), fun i ci hi => ?_, h.notS, h.live, h.inj, fun b' hb' => by rw [setCells_size]; exact h.Slt b' hb', h.S0, h.Snew, h.klen, h.kι⟩, hv⟩
  · rw [heap_setCells_other _ _ (fun e => ?_)]
    · exact h.old k hk hkM
    · subst e
      rcases hM with hh | hh
      · exact hkM hh
      · omega
  · rcases h.boxes i ci hi with h' | ⟨blk', c', e', hb', g1, g0, g2⟩
    · exact .inl h'
    · refine .inr ⟨blk', c', e', hb', ?_, g0, fun j p hj => ?_⟩
      · rw [heap_setCells_other _ _ (fun e2 => hfree i ci hi (by rw [hb', e2]))]; exact g1
      · obtain ⟨v, hv1, hv2⟩ := g2 j p hj
        exact ⟨v, hv1, hv _ _ _ hv2⟩

/-- A block that no box has becomes a new box; or a box without a block (empty). -/
theorem Store.adopt (h : Store c ι S σ w) {ob : Option Nat} {cs : List PV} (hob : (ob = none ∧ cs = []) ∨ ∃ (blk : Nat) (c' : Array Value) (e : TypeId), ob = some blk ∧ w.heap[blk]? = some (.cells c' e (0, 0)) ∧ ¬ S blk ∧ (c.M blk ∨ c.w0.heap.size ≤ blk) ∧ (∀ i ci, box σ i = some ci → ι i ≠ some blk) ∧
      (∀ p ∈ cs, PV.one p = true) ∧ (∀ (j : Nat) (p : PV), cs[j]? = some p → ∃ v : Value, c'[j]? = some v ∧ VRel σ.length ι S w v p)) :
    Store c (upd ι σ.length ob) S (σ ++ [some cs]) w ∧ (∀ m v p, m ≤ σ.length → VRel m ι S w v p → VRel m (upd ι σ.length ob) S w v p) := by
  have hv : ∀ m v p, m ≤ σ.length → VRel m ι S w v p → VRel m (upd ι σ.length ob) S w v p := fun m v p hm hh =>
    hh.mono (Nat.le_refl _) (fun b hb => by simp [upd]; omega) (fun _ h => h) (fun _ _ _ => rfl) (fun _ _ hx => hx)
  have hv' : ∀ v p, VRel σ.length ι S w v p → VRel (σ ++ [some cs]).length (upd ι σ.length ob) S w v p := fun v p hh =>
    (hv _ v p (Nat.le_refl _) hh).mono (by simp) (fun _ _ => rfl) (fun _ h => h) (fun _ _ _ => rfl) (fun _ _ h => h)
  refine ⟨⟨h.os, h.tape, h.output, h.size, h.old, h.shape, ?_, ?_, ?_, ?_, h.Slt, h.S0, h.Snew, by have := h.klen; simp; omega, fun i hi => ?_⟩, hv⟩
  · intro i ci hi
    rw [box_push] at hi
    by_cases e1 : i = σ.length
    · subst e1
      simp at hi; subst hi
      rcases hob with ⟨h1, h2⟩ | ⟨blk, c', e, h1, h2, h3, h4, h5, h6, h7⟩
      · exact .inl ⟨by simp [upd, h1], h2⟩
      · exact .inr ⟨blk, c', e, by simp [upd, h1], h2, h6, fun j p hj => by obtain ⟨v, hv1, hv2⟩ := h7 j p hj; exact ⟨v, hv1, hv' _ _ hv2⟩⟩
    · rw [if_neg e1] at hi
      rcases h.boxes i ci hi with ⟨h', h''⟩ | ⟨blk, c', e', hb', g1, g0, g2⟩
      · exact .inl ⟨by simp [upd, e1, h'], h''⟩
      · exact .inr ⟨blk, c', e', by simp [upd, e1, hb'], g1, g0, fun j p hj => by obtain ⟨v, hv1, hv2⟩ := g2 j p hj; exact ⟨v, hv1, hv' _ _ hv2⟩⟩
  · intro i ci blk hi hblk
    rw [box_push] at hi
    by_cases e1 : i = σ.length
    · subst e1
      simp [upd] at hblk
      rcases hob with ⟨h1, h2⟩ | ⟨blk', c', e, h1, h2, h3, h4, h5, h6, h7⟩
      · rw [h1] at hblk; simp at hblk
      · rw [h1] at hblk; simp at hblk; subst hblk; exact h3
    · rw [if_neg e1] at hi; simp [upd, e1] at hblk; exact h.notS i ci blk hi hblk
  · intro i ci blk hi hblk
    rw [box_push] at hi
    by_cases e1 : i = σ.length
    · subst e1
      simp [upd] at hblk
      rcases hob with ⟨h1, h2⟩ | ⟨blk', c', e, h1, h2, h3, h4, h5, h6, h7⟩
      · rw [h1] at hblk; simp at hblk
      · rw [h1] at hblk; simp at hblk; subst hblk; exact h4
    · rw [if_neg e1] at hi; simp [upd, e1] at hblk; exact h.live i ci blk hi hblk
  · intro i j ci cj blk hi hj hbi hbj
    rw [box_push] at hi hj
    have hno : ∀ i ci, box σ i = some ci → ι i = some blk → ob ≠ some blk := fun i ci hi hb he => by
      rcases hob with ⟨h1, h2⟩ | ⟨blk', c', e, h1, h2, h3, h4, h5, h6, h7⟩
      · rw [h1] at he; simp at he
      · rw [h1] at he; simp at he; subst he; exact h5 i ci hi hb
    by_cases e1 : i = σ.length <;> by_cases e2 : j = σ.length
    · omega
    · rw [if_neg e2] at hj; simp [upd, e1, e2] at hbi hbj; exact absurd hbi (hno j cj hj hbj)
    · rw [if_neg e1] at hi; simp [upd, e1, e2] at hbi hbj; exact absurd hbj (hno i ci hi hbi)
    · rw [if_neg e1] at hi; rw [if_neg e2] at hj; simp [upd, e1, e2] at hbi hbj; exact h.inj i j ci cj blk hi hj hbi hbj
  · have := h.klen
    simp only [upd]; rw [if_neg (by omega)]; exact h.kι i hi

theorem appendCore_rel (hs : Store c ι S σ w) {t t2 ty : TypeId} {x y : Value} {p q r : PV} {σ' : Boxes} (hx : VRel σ.length ι S w x p) (hy : VRel σ.length ι S w y q) (h : appendCore P σ t t2 p q = some (σ', r)) :
    ∃ v w' ι', (Builtin.append_ #[t, t2] ty #[x, y]).run P w = .ok v w' ∧ Store c ι' S σ' w' ∧ (∀ m v p, m ≤ σ.length → VRel m ι S w v p → VRel m ι' S w' v p) ∧ VRel σ'.length ι' S w' v r ∧ ∀ b, b < σ.length → ι' b = ι b := by
  unfold appendCore at h
  split at h
  · simp at h
  · rename_i e he
    have ht := und_elemOf he
    split at h
    · rename_i z by_ zs b k off len hz hby hzs
      split at h
      · rename_i cs m ps hb hsrc
        split at h
        · rename_i hc
          obtain ⟨rfl, hz0, hzl, rfl, hcl, hbytes, h63⟩ := hc
          simp at h
          obtain ⟨rfl, rfl⟩ := h
          obtain ⟨it, zv, hi, hzv, rfl⟩ := zeroOf_some hzs
          have hisz : it.size = k := by simpa [szOf, hi] using hz
          have hiby : it.bytes = by_ := by simpa [bytesOf, hi] using hby
          subst hisz; subst hiby
          obtain ⟨news, hsr, hseg, hpl⟩ := src_rel (s := ⟨0, [], σ, 0⟩) hs hy hsrc
          simp only at hseg
          have hnl : news.length = m * it.size := by rw [hseg.len, hpl]
          have hbl := box_lt hb
          have hk := hs.kill b
          have hlen' : (σ.set b none).length = σ.length := List.length_set
          -- the arm that grows: whatever the old slice is
          have grow : ∀ (ad : Option Addr) (cap : Nat) (olds : List Value), cap < len + m → (Builtin.firstCells it.size len (.slice ad len cap)).run P w.drew = .ok olds.toArray w.drew → Seg σ.length ι S w olds cs →
              ∃ v w' ι', (Builtin.append_ #[t, t2] ty #[.slice ad len cap, y]).run P w = .ok v w' ∧ Store c ι' S (σ.set b none ++ [some (cs ++ ps)]) w' ∧ (∀ m v p, m ≤ σ.length → VRel m ι S w v p → VRel m ι' S w' v p) ∧
              VRel (σ.set b none ++ [some (cs ++ ps)]).length ι' S w' v (.osl σ.length it.size 0 (len + m)) ∧ ∀ b, b < σ.length → ι' b = ι b := by
            intro ad cap olds hcap ho hso
            have hrun := run_app_grow (ty := ty) ht hi hzv hsr ho hcap h63 hbytes
            have hkd := hk.drew
            generalize hzc : (Builtin.zeroCells zv.cells (grownCap w (len + m) cap e - (len + m))).toList = zc at hrun
            have hzcl : zc.length = (grownCap w (len + m) cap e - (len + m)) * it.size := by
              rw [← hzc, Array.length_toList, size_zeroCells, show zv.cells.size = it.size by simpa using hzl]
            have hcells : ∀ (j : Nat) (p : PV), (cs ++ ps)[j]? = some p → ∃ v : Value, (olds ++ news ++ zc).toArray[j]? = some v ∧ VRel (σ.set b none).length ι S w.drew v p := fun j p hj => by
              obtain ⟨v, hv1, hv2⟩ := (hso.append hseg).rel j p hj
              refine ⟨v, ?_, by rw [hlen']; exact hv2.drew⟩
              have hlt := (List.getElem?_eq_some_iff.1 hv1).1
              simp only [List.getElem?_toArray]
              rw [List.getElem?_append_left hlt]; exact hv1
            have hone : ∀ p ∈ cs ++ ps, PV.one p = true := (hso.append hseg).one
            obtain ⟨hst, hmono⟩ := hkd.alloc (e := e) hone hcells
            rw [hlen'] at hst hmono
            refine ⟨_, _, _, hrun, hst, fun m v p hm hh => hmono m v p hm hh.drew, ?_, fun b hb => by simp [upd]; omega⟩
            have hge := grownCap_ge w (len + m) cap e
            refine .osl (blk := w.heap.size) (e := e) (m := (olds ++ news ++ zc).toArray.size) (by simp [hlen']) hge (grownCap_le_maxLen w (len + m) cap e h63) (by simp [upd]) ?_ ?_
            · have := heap_alloc_new w.drew (Obj.cells (olds ++ news ++ zc).toArray e)
              simp only [World.shape?]
              have hsz : w.drew.heap.size = w.heap.size := rfl
              rw [hsz] at this
              rw [this]
            · have hol := hso.len
              simp only [List.size_toArray, List.length_append, hol, hnl, hzcl, hcl, Nat.zero_add, ← Nat.add_mul]
              refine Nat.le_of_eq ?_
              congr 1; omega
          cases hx with
          | imm hx => cases hx
          | osl0 h1 =>
            have hcs0 : cs = [] := List.eq_nil_of_length_eq_zero (by simpa using hcl)
            subst hcs0
            rename_i ad
            rcases Nat.eq_zero_or_pos m with hm | hm
            · subst hm
              have hps : ps = [] := List.eq_nil_of_length_eq_zero (by simpa using hpl)
              have hn0 : news = [] := List.eq_nil_of_length_eq_zero (by simpa using hnl)
              subst hps
              have hrun := run_app_zero (ty := ty) ht hi hsr hn0 (a := ad)
              obtain ⟨hst, hmono⟩ := hk.adopt (ob := none) (cs := []) (.inl ⟨rfl, rfl⟩)
              rw [hlen'] at hst hmono
              exact ⟨_, _, _, hrun, by simpa using hst, hmono, .osl0 (by simp), fun b hb => by simp [upd]; omega⟩
            · refine grow ad 0 [] (by omega) ?_ ⟨rfl, by simp, by simp⟩
              cases ad <;> simp [Builtin.firstCells, loadCells, loadCellsFrom]
          | osl h1 h2 h3 h4 h5 h6 =>
            rename_i cap blk e' mm
            obtain ⟨blk', c', e'', hb', g1, g0, g2⟩ := (hs.boxes b cs hb).resolve_left (fun hh => by rw [hh.1] at h4; simp at h4)
            rw [hb'] at h4; simp at h4; subst h4
            have hcsz : c'.size = mm := by
              simp [World.shape?, g1] at h5; exact h5.2
            have hcl' : cs.length ≤ c'.size := by
              rw [hcl, hcsz]; have := Nat.mul_le_mul_right it.size h2; omega
            by_cases hroom : len + m ≤ cap
            · have hfit : len * it.size + news.length ≤ c'.size := by
                rw [hnl, hcsz, ← Nat.add_mul]; have := Nat.mul_le_mul_right it.size hroom; omega
              have hrun := run_app_room (ty := ty) ht hi hsr hroom (blk := blk') (fun j hj => by
                have : len * it.size + j < c'.size := by omega
                simp [World.cell?, g1, this]) (fun j hj => by simp [World.frozen?, g1]) hseg.ones
              have hS := hs.notS b cs blk' hb hb'
              have hM := hs.live b cs blk' hb hb'
              have hfree : ∀ i ci, box (σ.set b none) i = some ci → ι i ≠ some blk' := fun i ci hi e1 => by
                rw [box_set hbl] at hi
                split at hi
                · simp at hi
                · rename_i hne; exact hne (hs.inj i b ci cs blk' hi hb e1 hb')
              obtain ⟨hst1, hm1⟩ := hk.poke hS hM hfree (len * it.size) news
              have hcells : ∀ (j : Nat) (p : PV), (cs ++ ps)[j]? = some p → ∃ v : Value, (wr c' (len * it.size) news)[j]? = some v ∧ VRel (σ.set b none).length ι S (w.setCells blk' (len * it.size) news) v p := fun j p hj => by
                rw [wr_get _ _ _ _ hfit]
                rcases Nat.lt_or_ge j cs.length with hlt | hge
                · rw [List.getElem?_append_left hlt] at hj
                  rw [if_neg (by omega)]
                  obtain ⟨v, hv1, hv2⟩ := g2 j p hj
                  exact ⟨v, hv1, by rw [hlen']; exact hm1 _ _ _ hv2⟩
                · rw [List.getElem?_append_right hge] at hj
                  obtain ⟨v, hv1, hv2⟩ := hseg.rel _ p hj
                  have hlt := (List.getElem?_eq_some_iff.1 hv1).1
                  rw [if_pos (by omega), show j - len * it.size = j - cs.length by omega]
                  exact ⟨v, hv1, by rw [hlen']; exact hm1 _ _ _ hv2⟩
              obtain ⟨hst2, hm2⟩ := hst1.adopt (ob := some blk') (cs := cs ++ ps) (.inr ⟨blk', _, e'', rfl, heap_setCells_same _ _ _ _ _ _ _ g1, hS, hM, hfree, fun p hp => by
                rcases List.mem_append.1 hp with hp | hp
                · exact g0 p hp
                · exact hseg.one p hp, hcells⟩)
              rw [hlen'] at hst2 hm2
              refine ⟨_, _, _, hrun, hst2, fun m v p hm hh => hm2 m v p hm (hm1 _ _ _ hh), ?_, fun b hb => by simp [upd]; omega⟩
              exact .osl (blk := blk') (by simp [hlen']) hroom h3 (by simp [upd]) (shape_setCells _ _ _ _ _ _ h5) h6
            · have hso : Seg σ.length ι S w (c'.toList.take cs.length) cs :=
                ⟨by simp; omega, g0, fun j p hj => by
                  have hlt := (List.getElem?_eq_some_iff.1 hj).1
                  rw [List.getElem?_take_of_lt hlt, Array.getElem?_toList]
                  exact g2 j p hj⟩
              refine grow _ cap (c'.toList.take cs.length) (by omega) ?_ hso
              refine run_firstCells_some (P := P) w.drew it.size len ⟨blk', 0, none⟩ len cap _ (by rw [hso.len, hcl]) (fun j v hj => ?_)
              have hlt := (List.getElem?_eq_some_iff.1 hj).1
              rw [hso.len] at hlt
              rw [List.getElem?_take_of_lt hlt, Array.getElem?_toList] at hj
              rw [add_at]
              have hh : w.drew.heap = w.heap := rfl
              simp [World.cell?, hh, g1, hj]
        · simp at h
      · simp at h
    · simp at h

theorem append_rel (hs : Store c ι S σ w) {t t2 ty : TypeId} {x y : Value} {p q r : PV} {σ' : Boxes} (hx : VRel σ.length ι S w x p) (hy : VRel σ.length ι S w y q) (h : appendPV P σ t t2 p q = some (σ', r)) :
    ∃ v w' ι', (Builtin.append_ #[t, t2] ty #[x, y]).run P w = .ok v w' ∧ Store c ι' S σ' w' ∧ (∀ m v p, m ≤ σ.length → VRel m ι S w v p → VRel m ι' S w' v p) ∧ VRel σ'.length ι' S w' v r ∧ ∀ b, b < σ.length → ι' b = ι b := by
  unfold appendPV at h
  split at h
  · split at h
    · split at h
      · rename_i z hz
        obtain ⟨h1, h2⟩ := hs.adopt (ob := none) (cs := []) (.inl ⟨rfl, rfl⟩)
        have hx' : VRel (σ ++ [some []]).length (upd ι σ.length none) S w x (.osl σ.length z 0 0) := by
          rw [hx.k_inv.1]; exact .osl0 (by simp)
        have hy' : VRel (σ ++ [some []]).length (upd ι σ.length none) S w y q :=
          (h2 _ _ _ (Nat.le_refl _) hy).mono (by simp) (fun _ _ => rfl) (fun _ h => h) (fun _ _ _ => rfl) (fun _ _ h => h)
        obtain ⟨v, w', ι', k1, k2, k3, k4, k5⟩ := appendCore_rel (ty := ty) h1 hx' hy' h
        exact ⟨v, w', ι', k1, k2, fun m v p hm hh => k3 m v p (by simp; omega) (h2 m v p hm hh), k4, fun b hb => by rw [k5 b (by simp; omega)]; simp [upd]; omega⟩
      · simp at h
    · simp at h
  · exact appendCore_rel hs hx hy h
end

end Go.Proofs.Ytmkgechjbbekmaa.Am
