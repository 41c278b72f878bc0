/- KindFits: the walk. -/
import Derived.Test.YtmkgechjbbekmaaBase
import Derived.Test.YtmkgechjbbekmaaMake3
import Derived.Test.YtmkgechjbbekmaaKind7
set_option linter.unusedVariables false
set_option linter.unusedSimpArgs false
namespace Go.Proofs.Ytmkgechjbbekmaa.Am
open Go Go.RowKit

def k0 : GKind := ⟨⟨#[108, 105, 102, 101]⟩, [⟨⟨#[120]⟩, 8, 0⟩]⟩
theorem fitV0 : fitV k0 [999] = [255] := by kernel_rfl
theorem fitE0 : fitE k0 [999] = 0 := by kernel_rfl

set_option maxRecDepth 20000 in
set_option maxHeartbeats 2000000 in
theorem KindFits_fn (l : List Int) (n : Int) (ks : List GKind) (i : Nat) (hk : (kindsM l).1 = ks) (hlen : ks.length ≤ 4) (hpos : 0 < ks.length) (hi : n % (ks.length : Int) = i) (hil : i < ks.length) (k : GKind) (hki : ks[i] = k) (hfl : k.Fields.length ≤ 3)
    (c v : List Int) (hc : compV n l k.Fields.length = c) (hv : fitV k c = v) (he : fitE k c = 0) (hu : fitV k v = v) (hf : fitE k v = 0) (hvl : v.length = k.Fields.length) (hcl : c.length = k.Fields.length) (hh : holdsB k v = true)
    (hlo : ∀ (j : Nat) (h1 : j < v.length) (h2 : j < k.Fields.length), k.Fields[j].Low ≤ v[j]) (hhi : ∀ (j : Nat) (h1 : j < v.length) (h2 : j < k.Fields.length), v[j] ≤ highM k.Fields[j])
    (hnear : ∀ (j : Nat) (h1 : j < v.length) (h2 : j < k.Fields.length) (h3 : j < c.length), v[j] = nearM k.Fields[j] c[j])
    (hin : ∀ (j : Nat) (h1 : j < v.length) (h2 : j < k.Fields.length) (h3 : j < c.length), k.Fields[j].Low ≤ c[j] → c[j] ≤ highM k.Fields[j] → v[j] = c[j]) :
    Fn Try.prog 6 [slI l, kI n] (kB true) := by
  refine fn_go Try.func6 rfl ?_
  simp [Try.ntmps6]
  refine ops_fn base_fn rfl rfl rfl (by simp) en_21 rfl (by simp) (by simp) (by simp [baseW, GWorld.e]) ?_
  simp [baseW, GWorld.e]
  refine ops_ent (ent_frz 1 1 1 [kI 999] (by simp) rfl (by simp) (by simp)) ?_
  simp [St.frz, chunks]
  have hF0 := Fit_fn k0 [999] (by simp [k0]) (by simp)
  rw [fitV0, fitE0] at hF0
  refine ops_fn hF0 rfl rfl rfl (by simp) en_28 rfl (by simp [k0, slI, GKind.e]) (by simp) (by simp) ?_
  simp
  refine ops_snap (EqualI_fn [255] [255] (by simp)) rfl rfl rfl (by simp) en_29 rfl (by simp [slI, chunks]) (by simp) (by simp) ?_
  simp
  refine ops_fn (Kinds_fn l) rfl rfl rfl (by simp) en_24 rfl (by simp) (by simp) (by simp) ?_
  simp [hk]
  refine ops_fn (comp_fn ks n l i hpos (by omega) hi hil (by rw [hki]; omega)) rfl rfl rfl (by simp) en_30 rfl (by simp) (by simp) (by simp) ?_
  simp [hki, hc]
  have hF1 := Fit_fn k c (by omega) (by omega)
  rw [hv, he] at hF1
  have hF2 := Fit_fn k v (by omega) (by omega)
  rw [hu, hf] at hF2
  refine awp_draw follows_mix [] [(0, [0]), (0, [0]), (0, [0]), (0, [0]), (0, [0]), (0, [0]), (0, [0]), (2, [0]), (0, [0]), (0, [0]), (0, [0]), (0, [0]), (0, [0])] 0 (by kernel_rfl) rfl ?_
  simp [hil, hki]
  refine gD_call (.tup [slI v, kI 0]) ?_
  simp [hil, hki]
  refine ⟨callOk_fn hF1 rfl en_28 (fun _ => rfl) (fun _ => rfl) (fun _ => rfl) (by simp) (by simp) (by simp), ?_⟩
  refine ops_fn hF2 rfl rfl rfl (by simp) en_28 rfl (by simp) (by simp) (by simp) ?_
  have hvc : (v.length : Int) = c.length := by omega
  simp [slI, hvc]
  refine ops_fn (EqualI_fn v v (by omega)) rfl rfl rfl (by simp) en_29 rfl (by simp [slI]) (by simp) (by simp) ?_
  simp [hil, hki]
  refine ops_fn (Holds_fn k v (by omega) (by omega)) rfl rfl rfl (by simp) en_31 rfl (by simp [slI]) (by simp) (by simp) ?_
  simp [hh, hil, hki]
  refine awp_loop (fun j : Nat => ⟨166, [(9, .ptr 0 0), (10, slI v), (96, .sl 3 (k.Fields.map GField.e)), (97, kI k.Fields.length), (98, kI j)], [some (GComp.e ⟨i, c⟩)], 0⟩) (fun j => j ≤ k.Fields.length) (fun j => k.Fields.length - j) 0 ?_ ?_ ?_
  · exact ent_mk [3] rfl rfl rfl (by simp) (by simp) (by simp) (by simp [slI]) (by simp)
  · simp
  · intro j hj
    refine awp_go ?_
    by_cases hlt : j < k.Fields.length
    · have hjf : j < k.Fields.length := by omega
      have hjv : j < v.length := by omega
      have hjc : j < c.length := by omega
      have a1 := hlo j hjv (by omega)
      have a2 := hhi j hjv (by omega)
      have a3 := hnear j hjv (by omega) hjc
      have a4 := hin j hjv (by omega) hjc
      have b1 : ¬ v[j] < k.Fields[j].Low := by omega
      have b2 : ¬ highM k.Fields[j] < v[j] := by omega
      simp [hlt, hjf]
      have hH := High_fn k.Fields[j]
      have hN := Near_fn k.Fields[j] c[j]
      rw [← a3] at hN
      refine awp_drawS follows_mix [(0, 0), (0, 0), (0, 0), (0, 0), (0, 0), (0, 0), (0, 0), (0, 0), (0, 0), (0, 0), (0, 0), (0, 0), (0, 0), (2, 0), (0, 0), (0, 0), (0, 0), (0, 0), (0, 0), (0, 0), (0, 0), (0, 0), (0, 0), (0, 0), (0, 0), (0, 0), (0, 0), (2, 0), (0, 0), (0, 0), (0, 0), (0, 0), (0, 0), (0, 0), (0, 0), (0, 0), (0, 0), (0, 0), (0, 0), (0, 0), (0, 0), (0, 0), (0, 0), (0, 0), (0, 0), (0, 0), (2, 0), (0, 0), (0, 0), (0, 0), (0, 0), (0, 0), (0, 0), (0, 0), (0, 0), (0, 0), (0, 0), (0, 0), (0, 0), (0, 0), (0, 0), (0, 0)] 2 2 [] (by kernel_rfl) rfl rfl ?_
      simp [slI, hjv, b1]
      refine gE_call (kI (highM k.Fields[j])) ?_ ?_
      · simp
        exact callOk_fn hH rfl en_32 (fun _ => rfl) (fun _ => rfl) (fun _ => rfl) (by simp) (by simp) (by simp)
      simp [slI, hjv, hjc, b2]
      refine gE_call (kI v[j]) ?_ ?_
      · simp
        exact callOk_fn hN rfl en_33 (fun _ => rfl) (fun _ => rfl) (fun _ => rfl) (by simp) (by simp) (by simp)
      by_cases p1 : k.Fields[j].Low ≤ c[j]
      · simp [slI, hjv, hjc, p1]
        refine gE_call (kI (highM k.Fields[j])) ?_ ?_
        · simp
          exact callOk_fn hH rfl en_32 (fun _ => rfl) (fun _ => rfl) (fun _ => rfl) (by simp) (by simp) (by simp)
        by_cases p2 : c[j] ≤ highM k.Fields[j]
        · have p3 := a4 p1 p2
          simp [slI, hjv, hjc, p1, p2, p3]
          rw [wrap_id (by omega) (by omega)]
          exact ⟨j + 1, by omega, by omega, ent_mk [0] rfl rfl rfl (by simp) (by simp) (by simp) (by simp [slI]) (by simp)⟩
        · simp [slI, hjv, hjc, p1, p2]
          rw [wrap_id (by omega) (by omega)]
          exact ⟨j + 1, by omega, by omega, ent_mk [0] rfl rfl rfl (by simp) (by simp) (by simp) (by simp [slI]) (by simp)⟩
      · simp [slI, hjv, hjc, p1]
        rw [wrap_id (by omega) (by omega)]
        exact ⟨j + 1, by omega, by omega, ent_mk [0] rfl rfl rfl (by simp) (by simp) (by simp) (by simp [slI]) (by simp)⟩
    · simp [hlt]
      exact fin_now (by simp) rfl rfl
end Go.Proofs.Ytmkgechjbbekmaa.Am
