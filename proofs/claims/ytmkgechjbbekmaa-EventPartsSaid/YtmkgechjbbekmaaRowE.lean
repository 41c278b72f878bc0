/- A slice of events that came in, as the machine of values sees it. -/
import Derived.Test.YtmkgechjbbekmaaDat
import Derived.Deep.Slices
import Derived.Deep.Strs
import Derived.ChangeSame
import Derived.DataElems
import Derived.SizedLaws
namespace Go.Proofs.Ytmkgechjbbekmaa.Am
open Go Go.RowKit Go.Deep Go.ChangeShapes
set_option linter.unusedVariables false

def GEvent.wf (e : GEvent) : Prop := (Lit.int .i64 e.System).wf = true ∧ (Lit.int .i64 e.Ent.N).wf = true ∧ (Lit.int .i64 e.Ent.Gen).wf = true ∧ (Lit.int .i64 e.Value).wf = true
def GEvent.vs (e : GEvent) : List Go.Value := [.int .i64 e.System, .int .i64 e.Ent.N, .int .i64 e.Ent.Gen, .int .i64 e.Value]

section
variable {H : Type} {enc : TypeId × Value → H} {w : World} {base : Nat} {spare : Nat → Bool} {held : Bool}
theorem cells_event : Try.prog.cellsOf 30 = 4 := by kernel_rfl
theorem cells_ent : Try.prog.cellsOf 28 = 2 := by kernel_rfl
theorem cells_int : Try.prog.cellsOf 3 = 1 := by kernel_rfl

theorem open_event {fuel : Nat} {cs : List Value} {x : DataW H × List MemPlace} (h : DataW.trod enc Try.prog w base spare held fuel 30 cs = some x) : ∃ e : GEvent, cs = e.vs ∧ e.wf := by
  obtain ⟨y0, y1, y2, n, _, hl, h0, h1, h2⟩ := trod_struct3 Try.underlying30 h
  obtain ⟨z0, z1, n', _, hl1, g0, g1⟩ := trod_struct2 Try.underlying28 h1
  simp only [cells_event, cells_ent, cells_int] at *
  match cs, hl with
  | [a, b, c, d], _ =>
    simp at h0 h2 g0 g1
    obtain ⟨k0, e0, _, w0⟩ := DataW.trod_int Try.underlying3 h0
    obtain ⟨k1, e1, _, w1⟩ := DataW.trod_int Try.underlying3 g0
    obtain ⟨k2, e2, _, w2⟩ := DataW.trod_int Try.underlying3 g1
    obtain ⟨k3, e3, _, w3⟩ := DataW.trod_int Try.underlying3 h2
    simp at e0 e1 e2 e3
    subst e0 e1 e2 e3
    exact ⟨⟨k0, ⟨k1, k2⟩, k3⟩, rfl, w0, w1, w2, w3⟩

theorem open_events {fuel : Nat} {v : Value} {x : DataW H × List MemPlace} (h : DataW.trod enc Try.prog w base spare held fuel 22 v.cells.toList = some x) (hs : ∃ a len cap, v = .slice a len cap) :
    ∃ (a : Option Addr) (len cap : Nat) (l : List GEvent), v = .slice a len cap ∧ l.length = len ∧ len ≤ maxLen ∧ (∀ e ∈ l, e.wf) ∧ IRel (fun b => b < w.heap.size) w (.slice a len cap) (.sl 4 (l.map GEvent.e)) := by
  obtain ⟨a, len, cap, rfl⟩ := hs
  rcases open_slice Try.underlying22 h with ⟨hcs, _⟩ | ⟨x, l, c, m, n, D, Pl, hcs, _, hl, hm, hmm, _, hel⟩
  · simp [Value.cells] at hcs
    obtain ⟨rfl, rfl, rfl⟩ := hcs
    exact ⟨none, 0, 0, [], rfl, rfl, by simp, by simp, .nil_sl⟩
  · simp [Value.cells] at hcs
    obtain ⟨rfl, rfl, rfl⟩ := hcs
    have hml : len ≤ m := by rw [hmm]; split <;> omega
    have hx : ∀ i, ∃ e : GEvent, i < len → e.wf ∧ ∀ j, j < 4 → w.cell? (x.add (i * 4 + j)) = e.vs[j]? := fun i => by
      by_cases hi : i < len
      · obtain ⟨cs', hc, ht⟩ := hel i (by omega)
        obtain ⟨e, rfl, hw⟩ := open_event ht
        rw [cells_event] at hc
        obtain ⟨_, _, hcc⟩ := World.cells?_some hc
        refine ⟨e, fun _ => ⟨hw, fun j hj => ?_⟩⟩
        have := hcc j hj
        rwa [Addr.add_add] at this
      · exact ⟨⟨0, ⟨0, 0⟩, 0⟩, fun h => absurd h hi⟩
    let g : Nat → GEvent := fun i => Classical.choose (hx i)
    have hg : ∀ i, i < len → (g i).wf ∧ ∀ j, j < 4 → w.cell? (x.add (i * 4 + j)) = (g i).vs[j]? := fun i => Classical.choose_spec (hx i)
    refine ⟨some x, len, cap, (List.range len).map g, rfl, by simp, by omega, fun e he => ?_, ?_⟩
    · simp at he; obtain ⟨i, hi, rfl⟩ := he; exact (hg i hi).1
    · have hvs : ∀ (e : GEvent) (j : Nat), j < 4 → ∃ v p, e.vs[j]? = some v ∧ e.e[j]? = some p ∧ ∀ S w, IRel S w v p := fun e j hj => by
        match j, hj with
        | 0, _ => exact ⟨_, _, rfl, rfl, fun _ _ => .k rfl⟩
        | 1, _ => exact ⟨_, _, rfl, rfl, fun _ _ => .k rfl⟩
        | 2, _ => exact ⟨_, _, rfl, rfl, fun _ _ => .k rfl⟩
        | 3, _ => exact ⟨_, _, rfl, rfl, fun _ _ => .k rfl⟩
      have hlen : ∀ r ∈ ((List.range len).map g).map GEvent.e, r.length = 4 := fun r hr => by
        simp at hr; obtain ⟨i, _, rfl⟩ := hr; rfl
      refine .sl (fun j => ((g (j / 4)).vs[j % 4]?).getD undef) (by simp) hl hm hlen (fun r hr p hp => ?_) (fun h => by simp at h) (fun hn => ?_) (fun j p hj => ?_)
      · simp at hr; obtain ⟨i, _, rfl⟩ := hr
        simp [GEvent.e] at hp
        rcases hp with rfl | rfl | rfl | rfl <;> rfl
      · have h0 := (hg 0 hn).2 0 (by omega)
        have hx0 : x.add (0 * 4 + 0) = x := by simp [Addr.add]
        rw [hx0] at h0
        have hsp : x.spot = none := by
          cases hs : x.spot with
          | none => rfl
          | some q => simp [World.cell?, hs, GEvent.vs] at h0; split at h0 <;> simp at h0
        obtain ⟨b, o, sp⟩ := x
        simp at hsp; subst hsp
        refine ⟨b, o, rfl, World.block_lt_of_cell? w _ h0, fun j hj => ?_⟩
        have h1 := (hg (j / 4) (by omega)).2 (j % 4) (Nat.mod_lt _ (by omega))
        rw [add_at, show j / 4 * 4 + j % 4 = j by omega] at h1
        obtain ⟨v, _, hv, _, _⟩ := hvs (g (j / 4)) (j % 4) (Nat.mod_lt _ (by omega))
        rw [h1, hv]; rfl
      · have hj' := (List.getElem?_eq_some_iff.1 hj).1
        rw [flatten_len _ hlen] at hj'
        simp at hj'
        have hi : j / 4 < len := by omega
        have hr : (((List.range len).map g).map GEvent.e)[j / 4]? = some (g (j / 4)).e := by simp [hi]
        have hf := flatten_at (j / 4) _ hlen _ hr (j % 4) (Nat.mod_lt _ (by omega))
        rw [show j / 4 * 4 + j % 4 = j by omega] at hf
        obtain ⟨v, q, hv, hq, hvq⟩ := hvs (g (j / 4)) (j % 4) (Nat.mod_lt _ (by omega))
        rw [hf, hq] at hj
        simp at hj; subst hj
        simp only [hv, Option.getD_some]
        exact hvq _ _
theorem sized_events {a : Option Addr} {len cap : Nat} {d : DataW H} {ps : List MemPlace} {ts : List TypeId} {ds : List (DataW H)} {j : Nat}
    (hsz : (DataW.weightsEach Try.prog ts ds).all (· ≤ reachBytes) = true) (ht : ts[j]? = some 22) (hd : ds[j]? = some d)
    (h : DataW.Trod enc Try.prog w base spare held 22 (.slice a len cap) d ps) : len * 32 ≤ 140737488351232 := by
  obtain ⟨fuel, hf⟩ := h
  rcases open_slice Try.underlying22 hf with ⟨hcs, _⟩ | ⟨x, l, c, m, n, D, Pl, hcs, _, hl, _, hm, hx, _⟩
  · simp [Value.cells] at hcs
    obtain ⟨rfl, rfl, rfl⟩ := hcs
    simp
  · simp [Value.cells] at hcs
    obtain ⟨rfl, rfl, rfl⟩ := hcs
    obtain ⟨hx, _⟩ := Prod.mk.inj hx
    subst hx
    have z := sized_slice hsz ht hd Try.underlying22
    have hb : Try.prog.bytesOf 30 = 32 := by kernel_rfl
    rw [hb] at z
    simp [reachBytes] at z
    omega
end
end Go.Proofs.Ytmkgechjbbekmaa.Am
