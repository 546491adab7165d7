/- CompileMakes, the second form's card: where what the law reads is of bulk at most 1048576 it returns true, and its arguments read as they did. -/
import Derived.Test.YtfgjiidbafdndaaGreatDoorRows
import Derived.Test.YtfgjiidbafdndaaGreatDoorCards
import Derived.Test.YtfgjiidbafdndaaGreatDoorTie
import Derived.Test.YtfgjiidbafdndaaGreatDoorK0
import Derived.Test.YtfgjiidbafdndaaGreatDoorK7p
import Derived.Test.YtfgjiidbafdndaaGreatDoorK25
import Derived.Test.YtfgjiidbafdndaaGreatDoorK32
import Derived.WalkKit
import Derived.ProofKit
import Derived.OpenShut
import Derived.Deep.DeepHandedRow
import Derived.JoinedCond
namespace Go.Proofs.YtfgjiidbafdndaaGreatDoor.compileMakes
open Go.ChangeShapes Go.WideShapes Go.ChangeAt Go.RowKit
set_option maxRecDepth 100000
theorem contract (H : Type) (enc : TypeId × Value → H) (W : World) (base : Nat) (args : Array Value) (ds gs : List (DataW H)) (before : List MemPlace)
  (hval0 : ∀ (j : Nat) t v, Tryz.f3.params[j]? = some t → args[j]? = some v → Value.okWide Tryz.prog W .any base t v)
  (hW : DataW.Whole enc Tryz.prog Tryz.f3.params.toList Rows.compileMakesSpec.vars false W args.toList ds gs before) (hk0 : Rows.uptoSmall H (ds ++ gs) = true)
  (hL : laidMetH Tryz.prog Rows.compileMakesUptoRow.laid W) (hS : W.ShapedOpen Tryz.prog) :
  Calls Tryz.prog 3 args W fun e W' => ∃ v, e = .returned v ∧ Rows.compileMakesSpec.post enc Tryz.prog Tryz.f3 false true false false W args v W' := by
 have hk : bulks (ds ++ gs) ≤ 1048576 := by simpa [Rows.uptoSmall, bulks] using hk0
 clear hk0
 have G := glob_of hL hS
 have hval : ∀ (j : Nat) t v, Tryz.f3.params[j]? = some t → args[j]? = some v → Value.okWide Tryz.prog W .any base t v := hval0
 have hW' := hW
 obtain ⟨p, q, hA0, hV, rfl, _, _⟩ := hW
 have hA : DataW.TrodAll enc Tryz.prog W 0 (fun _ => true) true Tryz.f3.params.toList args.toList ds p := hA0
 rw [Tryz.params3] at hA hval
 obtain ⟨v0, vs0, d0, ds0, p0, q0, hargs, rfl, rfl, h0, r0⟩ := trodAll_cons hA
 obtain ⟨v1, vs1, d1, ds1, p1, q1, rfl, rfl, rfl, h1, r1⟩ := trodAll_cons r0
 obtain ⟨v2, vs2, d2, ds2, p2, q2, rfl, rfl, rfl, h2, r2⟩ := trodAll_cons r1
 obtain ⟨rfl, rfl, rfl⟩ := trodAll_nil r2
 obtain rfl : args = #[v0, v1, v2] := by cases args; simp_all
 obtain ⟨rfl, rfl⟩ := trodVars_none hV
 simp only [List.append_nil, bulks_cons, bulks_nil] at hk
 have lt0 : ∀ x ∈ p0, x.block < W.heap.size := by obtain ⟨m, hm⟩ := h0; exact DataW.trod_lt m _ _ _ hm
 have lt1 : ∀ x ∈ p1, x.block < W.heap.size := by obtain ⟨m, hm⟩ := h1; exact DataW.trod_lt m _ _ _ hm
 have lt2 : ∀ x ∈ p2, x.block < W.heap.size := by obtain ⟨m, hm⟩ := h2; exact DataW.trod_lt m _ _ _ hm
 obtain ⟨cs0, rfl, _⟩ := okWide_struct Tryz.underlying35 (hval 0 35 v0 rfl rfl)
 obtain ⟨cs1, rfl, _⟩ := okWide_struct Tryz.underlying42 (hval 1 42 v1 rfl rfl)
 obtain ⟨c, rfl, _⟩ := open_int Tryz.underlying30 (hval 2 30 v2 rfl rfl) h2
 have walk : Calls Tryz.prog 3 #[.agg cs0, .agg cs1, .int .i32 c] W fun e w' => e = .returned (.bool true) ∧ Below W.heap.size W w' := by
  obtain ⟨m0, hm0⟩ := h0
  obtain ⟨m1, hm1⟩ := h1
  obtain ⟨s, x, z, t, tc, ⟨f, subs⟩, e0, okT, hT⟩ := open_delta hm0 (by show bulk d0 ≤ _; omega)
  obtain ⟨x', z', c', rc, ⟨g, rsubs⟩, e1, okR, hR⟩ := open_reply hm1 (by show bulk d1 ≤ _; omega)
  have a0 : cs0 = cs0.toList.toArray := by simp
  have a1 : cs1 = cs1.toList.toArray := by simp
  rw [a0, a1]
  exact makes_any f subs g rsubs _ _ s x z t x' z' c' c tc rc _ _ W e0 e1 okT okR hT hR (fun _ h => h) (fun _ h => h) G live_any
 clear hA0 hval0
 refine walk.mono fun e W' ⟨he, bel⟩ => ?_
 subst he
 exact ⟨_, rfl, _, _, _, [], _, [], hW', trodAll_mk1 (shut_bool Tryz.underlying4 _),
  (trodAll_cons_mk (Below.trod fact_laidOut (by kernel_rfl) (of_decide_eq_true (by kernel_rfl)) h0 bel lt0) (trodAll_cons_mk (Below.trod fact_laidOut (by kernel_rfl) (of_decide_eq_true (by kernel_rfl)) h1 bel lt1)
    (trodAll_cons_mk (Below.trod fact_laidOut (by kernel_rfl) (of_decide_eq_true (by kernel_rfl)) h2 bel lt2) trodAll_mk0))), rfl, bel.frame _, fun h => by cases h⟩
theorem lifted (os : Os) (started : os.Started) (H : Type) (enc : TypeId × Value → H) (F : Stop.Interp) :
  ReturnsInHanded {} Tryz.checked os 3 .any ((Rows.OpenSpec.upto Rows.compileMakesSpec).preRow enc Tryz.prog Tryz.f3 Rows.compileMakesUptoRow.domain false Rows.compileMakesUptoRow.laid) (((Rows.OpenSpec.upto Rows.compileMakesSpec).at F).post enc Tryz.prog Tryz.f3 false true false false) := by
 obtain ⟨x, hx, hsmall⟩ := w_reads os enc
 refine returnsInHanded_of_row (C := Tryz.checked) (s := Rows.OpenSpec.upto Rows.compileMakesSpec) fact_own started fact_noInit Tryz.func3
  (witness_row_atRef (enc := enc) (C := Tryz.checked) false (wworld os) wargs (World.laidAll_os _ _ _) (w_refs os) (w_rest os) (w_ok os)
    (OpenSpec.preRow_of_cond 8 hx rfl (fun k hk => by cases hk; exact hsmall) (w_sized os enc) (w_met os))) ?_
 intro W base args ds gs before hval hW _ hcond _ hL hS _
 exact contract H enc W base args ds gs before hval hW (hcond _ rfl) hL hS
theorem facts : joinedFacts Tryz.prog 3 Tryz.f3 (Rows.OpenSpec.upto Rows.compileMakesSpec).bare Rows.compileMakesUptoRow = true := by
 unfold joinedFacts
 rw [fact_laidOut, fact_mapsRowed, fact_stops, fact_stopKnobs, fact_plainKeys, fact_stopsHeard, fact3_inPlace, fact3_unfollowed, fact3_recurses, fact3_named]
 kernel_rfl
theorem over : Rows.CompileMakesUptoSaid :=
 OpenClaim.holds_of_cond 3 Tryz.f3 rfl rfl rfl rfl rfl rfl rfl ⟨rfl, rfl, rfl, rfl, rfl⟩ rfl rfl rfl rfl rfl fact_funcIs Tryz.func3 facts
  (of_decide_eq_true (by kernel_rfl)) (by unfold Func.isWrapper; first | (rw [if_pos (by decide +kernel)]; kernel_rfl) | (rw [if_neg (by decide +kernel)]; exact ⟨rfl, rfl⟩))
  (fun os started H enc _ F => by rw [OpenClaim.pre_eq_preRow]; exact lifted os started H enc F)
theorem proved : Rows.CompileMakesUptoCardSaid :=
 Claim7.holds_tied_plain_at .later [] [.data, .data, .data, .data, .sentinel, .sentinel, .pinned] true (true, "fe75fd89b2ed9ac1d0fdbf24666d7dcdb5468da34d0d3b50d8356c927932e60b") true
  over (fun _ h => by cases h) fact_wf (fun _ h => by cases h) compileMakesUpto_row_tie rfl ⟨rfl, rfl⟩ fact_mainIs rfl
  (fun f fn hf hfn => by
    obtain rfl : f = 3 := Option.some.inj (fact_funcIs.symm.trans hf) |>.symm
    obtain rfl : fn = Tryz.f3 := (Option.some.inj (Tryz.func3.symm.trans hfn)).symm
    exact ⟨fact_looks, fun j t ht => by
     rw [Tryz.params3] at ht
     have hm : t ∈ [35, 42, 30] := by simpa using Array.mem_of_getElem? ht
     exact (show Tryz.prog.wantsStandIn t = false by simpa using List.all_eq_true.1 fact_standIns t hm)⟩)
  fact_goesBy
#print axioms proved
end Go.Proofs.YtfgjiidbafdndaaGreatDoor.compileMakes
