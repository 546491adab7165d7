/- Shadow evaluation, 18: a round of a range over a function; operations that write or call. -/
import Derived.Test.YtjipcihcldngbaaGreatDoorShQ
namespace Go.Sh
variable {P : Program} {ρ : Rho} {G : Nat}

/-- A loop's record. -/
theorem loop_live {σ : SW} {w : World} (hr : Rel G ρ σ w) {l : Nat} {st : LoopState} {pend : Option Code} {f : Nat} {tm : Tr Value} {n : Nat} {ps : List Tmp} {as bo : Code} {d : Nat}
    (hg : σ.heap.get l = some (.loop st pend f tm n ps as bo d)) : ∃ b c r, ρ l = some (b, c) ∧ w.heap[b]? = some (.loop r) ∧ ObjR ρ c (.loop st pend f tm n ps as bo d) (.loop r) := by
  obtain ⟨_, b, c, o', h1, h2, h3⟩ := hr.live _ _ hg
  cases o' with
  | loop r => exact ⟨b, c, r, h1, h2, h3⟩
  | _ => simp only [ObjR] at h3

theorem putObj_chg {w : World} {b : Nat} {o o' : Obj} (h : w.heap[b]? = some o) : Chg1 w (w.putObj b o') b o' := setObj_chg h

theorem round_ok {ev : Ev} (he : EvSound P G ev) {rnd : Option Nat} {fn : Nat} {o : Oper} {fr fr1 fr2 fr' : Fr} {l : Nat} {args : List Value} {f : Nat} {tm : Tr Value} {n : Nat} {ps : List Tmp} {as bo : Code} {d0 : Nat}
    {f2 : Nat} {tm2 : Tr Value} {n2 : Nat} {ps2 : List Tmp} {as2 bo2 : Code} {d2 : Nat} {f3 : Nat} {tm3 : Tr Value} {n3 : Nat} {ps3 : List Tmp} {as3 bo3 : Code} {d3 : Nat} {st3 : LoopState} {pend3 : Option Code} {x : Ex} {jump : Option Code}
    (hd : ∀ c, o.op ≠ .defer c) (hrun : ∀ ρ b a cs w, Fst P ρ rnd fn fr b a cs → Rel G ρ fr.wk w → ∃ (l' cc : Nat) (args' : Array Value), ρ l = some (l', cc) ∧ LR ρ args args'.toList ∧ (execOp a.eval o).run P w = (Instr.yield l' args').run P w)
    (hl : fr.wk.heap.get l = some (.loop .ready none f tm n ps as bo d0)) (hlen : args.length = ps.length) (hGl : G ≤ l)
    (h1 : ev.code (some l) f as { tm := roundTm n ps args tm, n := n, defers := [], pc := none, wk := fr.wk } = some (.normal, fr1))
    (hl1 : fr1.wk.heap.get l = some (.loop .ready none f2 tm2 n2 ps2 as2 bo2 d2))
    (h2 : ev.code (some l) f bo { fr1 with wk := { fr1.wk with heap := fr1.wk.heap.put l (some (.loop .busy none f2 tm2 n2 ps2 as2 bo2 d2)) } } = some (x, fr2))
    (hl2 : fr2.wk.heap.get l = some (.loop st3 pend3 f3 tm3 n3 ps3 as3 bo3 d3))
    (hx : (x = .normal ∧ jump = none) ∨ (x = .ret ∧ jump = some .ret) ∨ ∃ id, x = .exit id ∧ jump = some (.exit id))
    (hput : ({ fr with wk := { fr2.wk with heap := fr2.wk.heap.put l (some (.loop (if jump.isNone then .ready else .done) jump f3 tm3 n3 ps3 as3 bo3 d3)) } } : Fr).put o.dst (.bool jump.isNone) = some fr') :
    OpOk P G rnd fn o fr .normal fr' := by
  intro ρ b a cs w ops i rest k ho hw hf hr hfresh
  have hwk := put_wk hput
  have n1 := he.codeN h1
  have n2' := he.codeN h2
  simp only at n1 n2'
  have hwkn : fr'.wk.next = fr2.wk.next := by rw [hwk]
  obtain ⟨l', cc, args', hρl, hA, hy⟩ := hrun ρ b a cs w hf hr
  obtain ⟨bl, cl, r, hρl', hwl, hO⟩ := loop_live hr hl
  rw [hρl] at hρl'; cases hρl'
  simp only [ObjR] at hO
  obtain ⟨hst, hpe, hfn, ⟨htm, hn⟩, hps, has, hbo, _⟩ := hO
  -- yield
  have hsz : args'.size = r.params.size := by
    have := hA.len; rw [← hps] at hlen; simp at this hlen; omega
  have hyr := run_yield (P := P) hwl hsz
  rw [← hy] at hyr
  have hfold : (r.params.zip args').foldl (fun tmps (x : Tmp × Value) => tmps.setIfInBounds x.1 x.2) r.tmps = (ps.zip args'.toList).foldl (fun tmps (x : Tmp × Value) => tmps.setIfInBounds x.1 x.2) r.tmps := by
    rw [← Array.foldl_toList, Array.toList_zip, hps]
  have hyr' : (execOp a.eval o).run P w = .ok (.round l' f ((ps.zip args'.toList).foldl (fun tmps (x : Tmp × Value) => tmps.setIfInBounds x.1 x.2) r.tmps) as bo) w := by
    rw [hyr, ← hfold, hfn, has, hbo]
  have hround := step_round (k := k) (cs := cs) (rest := rest) (b := b) ho hw hd hyr'
  obtain ⟨htm', hn'⟩ := roundTm_R n (ps := ps) htm hn hA
  -- the round's frame
  generalize hT : (ps.zip args'.toList).foldl (fun (tmps : Array Value) (x : Tmp × Value) => tmps.setIfInBounds x.1 x.2) r.tmps = tmps' at *
  obtain ⟨b2, hb2⟩ : ∃ b2 : Frame, b2 = { (default : Frame) with fn := f, kind := .normal, roundOf := some l' } := ⟨_, rfl⟩
  have hfr : Frame.round l' f tmps' as bo .normal = b2.atR { tmps := tmps', defers := [] } [.code as, .beginRound, .code bo] := by subst hb2; rfl
  have hb2k : b2.kind = .normal := by subst hb2; rfl
  have hb2r : b2.roundOf = some l' := by subst hb2; rfl
  have hb2f : b2.fn = f := by subst hb2; rfl
  rw [hfr] at hround
  have hF0 : Fst P ρ (some l) f { tm := roundTm n ps args tm, n := n, defers := [], pc := none, wk := fr.wk } b2 { tmps := tmps', defers := [] } (b.atR a (.inRegion ops (i :: rest) :: k) :: cs) :=
    ⟨hb2f, ⟨l', cc, hρl, hb2r⟩, htm', hn', trivial, .inl hb2k⟩
  obtain ⟨ρ1, a1, cs1, w1, hev1, hF1, hm1, hs1⟩ := he.code h1 ρ b2 _ _ w [.beginRound, .code bo] hF0 hr (hfresh.first (by omega))
  rw [hb2k] at hm1
  have hc1 := hm1.normal
  subst hc1
  simp only [ArrR] at hs1
  -- beginRound
  obtain ⟨bl1, cl1, r1, hρ1, hwl1, hO1⟩ := loop_live hev1.rel hl1
  have := hev1.ext _ _ hρl
  rw [this] at hρ1; cases hρ1
  have hO1' := hO1
  simp only [ObjR] at hO1
  have hbeg := run_beginRound (P := P) hwl1 hO1.1
  have hsb := stepR_beginRound (P := P) (b := b2) (a := a1) (k := [.code bo]) (cs := b.atR a (.inRegion ops (i :: rest) :: k) :: cs) hb2r hbeg
  have hch1 := putObj_chg (o' := .loop { r1 with state := .busy }) hwl1
  have hevb := evo_chg (ob := .loop .busy none f2 tm2 n2 ps2 as2 bo2 d2) hev1.rel hGl hl1 this hch1 ⟨rfl, hO1.2⟩
  have hF1' := (hF1.mono hevb.ext).wk { fr1.wk with heap := fr1.wk.heap.put l (some (.loop .busy none f2 tm2 n2 ps2 as2 bo2 d2)) }
  -- the body
  have hev1b := hev1.trans hevb
  have hfr1 : Fresh ρ1 { fr1.wk with heap := fr1.wk.heap.put l (some (.loop .busy none f2 tm2 n2 ps2 as2 bo2 d2)) } fr2.wk :=
    Fresh.second (a := fr.wk) (fun i h1 h2 => hfresh i h1 (by omega)) hev1b
  obtain ⟨ρ2, a2, cs2, w2, hev2, hF2, hm2, hs2⟩ := he.code h2 ρ1 b2 a1 _ _ [] hF1' hevb.rel hfr1
  rw [hb2k] at hm2
  have hc2 := hm2.normal
  subst hc2
  -- endRound
  obtain ⟨bl2, cl2, r2, hρ2, hwl2, hO2⟩ := loop_live hev2.rel hl2
  have hρl2 := hev2.ext _ _ this
  rw [hρl2] at hρ2; cases hρ2
  simp only [ObjR] at hO2
  have hend := run_endRound (P := P) jump hwl2
  have hch2 := putObj_chg (o' := .loop { r2 with state := if jump.isNone then .ready else .done, pending := jump }) hwl2
  have heve := evo_chg (ob := .loop (if jump.isNone then .ready else .done) jump f3 tm3 n3 ps3 as3 bo3 d3) hev2.rel hGl hl2 hρl2 hch2 ⟨rfl, rfl, hO2.2.2⟩
  have hall := (hev1b.trans hev2).trans heve
  have hback : Steps P (lone (b2.atR a1 [.code bo]) (b.atR a (.inRegion ops (i :: rest) :: k) :: cs) (w1.putObj l' (.loop { r1 with state := .busy })))
      (lone (b.atR (a.put o.dst (.bool jump.isNone)) (.inRegion ops rest :: k)) cs (w2.putObj l' (.loop { r2 with state := if jump.isNone then .ready else .done, pending := jump }))) := by
    have hfin := Frame.finish_atR b a ops i rest k (.bool jump.isNone)
    rw [ho] at hfin
    simp only [Option.bind_some] at hfin
    rw [← hfin]
    rcases hx with ⟨rfl, rfl⟩ | ⟨rfl, rfl⟩ | ⟨id, rfl, rfl⟩
    · simp only [ArrR] at hs2
      exact hs2.trans (Steps.one (stepR_round_end hb2r hb2k hend))
    · obtain ⟨k0, hs2⟩ := hs2
      exact hs2.trans (Steps.one (stepR_round_ret hb2r hb2k hend))
    · obtain ⟨k0, hs2, hex⟩ := hs2
      exact hs2.trans (Steps.one (stepR_round_exit hb2r hb2k (by rw [hex]; rfl) hend))
  obtain ⟨h3, h4⟩ := ((hf.mono hall.ext).wk _).put (.bool jump.isNone) hput
  exact ⟨ρ2, _, cs, _, by rw [h4]; exact hall, h3, CsMod.refl _ _, .inl ⟨rfl, _, rfl⟩, (Steps.head hround hs1).trans (Steps.head hsb hback)⟩

end Go.Sh
