/- Shadow evaluation, 14: append. -/
import Derived.Test.YtjipcihcldngbaaGreatDoorShM
namespace Go.Sh
variable {P : Program} {ρ : Rho} {G : Nat}

theorem LR.one {l l' : List Value} (h : LR ρ l l') (ha : l.all (·.oneCell') = true) : ∀ v ∈ l', v.oneCell' = true := by
  intro v hv
  obtain ⟨j, hj, rfl⟩ := List.getElem_of_mem hv
  have hj' : j < l.length := by rw [h.len]; exact hj
  rw [← (h.at_ j l[j] l'[j] (by simp) (by simp)).oneCell]
  exact List.all_eq_true.1 ha _ (List.getElem_mem hj')

theorem LR.of_plain {l : List Value} (h : ∀ v ∈ l, plain v = true) : LR ρ l l :=
  ⟨rfl, fun j v v' hv hv' => by rw [hv] at hv'; cases hv'; exact plain_refl ρ (h v (List.mem_of_getElem? hv))⟩

theorem cells_at {c : List Value} {c' : Array Value} {off n b : Nat} {e : TypeId} {fr : Nat × Nat} {w : World} (hL : LR ρ c (c'.toList.take c.length)) (hw : w.heap[b]? = some (.cells c' e fr)) {l : List Value} (hl : l = (c.drop off).take n) :
    ∃ l', LR ρ l l' ∧ (∀ j v, l'[j]? = some v → w.cell? ((⟨b, off, none⟩ : Addr).add j) = some v) ∧ (off + n ≤ c.length → l' = (c'.toList.drop off).take n) := by
  subst hl
  refine ⟨((c'.toList.take c.length).drop off).take n, (hL.drop off).take n, fun j v hv => ?_, fun hle => ?_⟩
  · rw [Addr.add_plain, cell_at hw]
    rw [List.getElem?_take] at hv
    split at hv
    · rw [List.getElem?_drop, List.getElem?_take] at hv
      split at hv
      · simpa using hv
      · cases hv
    · cases hv
  · apply List.ext_getElem?
    intro j
    simp only [List.getElem?_take, List.getElem?_drop]
    by_cases h1 : j < n
    · rw [if_pos h1, if_pos h1, if_pos (by omega)]
    · rw [if_neg h1, if_neg h1]

theorem src_sound {σ : SW} {w : World} (hr : Rel G ρ σ w) {size m : Nat} {x x' : Value} {news : List Value} {tx : TypeId} (hx : VR ρ x x') (hk : (∃ e', P.underlying tx = some (.slice e')) ∨ P.underlying tx = some .string)
    (h : srcS σ size x = some (m, news)) (ha : news.all (·.oneCell') = true) : ∃ news', LR ρ news news' ∧ Src P size tx x' m news' w := by
  unfold srcS at h
  split at h
  · rename_i n c
    obtain ⟨hn, h⟩ := cond_some h
    cases h
    have hn := Nat.eq_of_beq_eq_true hn
    subst hn
    cases hx
    exact ⟨[], LR.nil ρ, hk, fun _ => rfl, run_firstCells_none w size 0 0 c, run_firstCells_none w.drew size 0 0 c, by simp, fun _ h => by cases h⟩
  · rename_i i off n c
    split at h
    · rename_i cs hcs
      obtain ⟨hn, h⟩ := cond_some h
      cases h
      have hlen := Nat.eq_of_beq_eq_true hn
      obtain ⟨b, cc, c', e, hρ, ⟨_, _, hw⟩, hL, _⟩ := cells_live hr hcs
      obtain ⟨b', cc', c2, hρ', rfl, _⟩ := hx.slice_inv
      rw [hρ] at hρ'; cases hρ'
      obtain ⟨l', hl', hcell, _⟩ := cells_at (off := off) (n := m * size) hL hw rfl
      have hll : l'.length = m * size := by rw [← hl'.len]; exact hlen
      exact ⟨l', hl', hk, fun _ => rfl, run_firstCells_some w size m _ m c2 l' hll hcell, run_firstCells_some w.drew size m _ m c2 l' hll (by simpa using hcell), hll, hl'.one ha⟩
    · cases h
  · rename_i s
    obtain ⟨hn, h⟩ := cond_some h
    cases h
    have hn := Nat.eq_of_beq_eq_true hn
    subst hn
    cases hx
    refine ⟨byteCells s, LR.of_plain fun v hv => ?_, hk, fun _ => rfl, firstCells_string s w, firstCells_string s w.drew, by rw [byteCells_length, Nat.mul_one], fun u hu => ?_⟩
    · obtain ⟨_, _, rfl⟩ := List.mem_map.1 hv; rfl
    · obtain ⟨_, _, rfl⟩ := List.mem_map.1 hu; rfl
  · cases h

theorem evo_erase {ρ1 : Rho} {σ σ1 : SW} {w w1 : World} (h : Evo G ρ σ w ρ1 σ1 w1) (i : Nat) : Evo G ρ σ w ρ1 { σ1 with heap := σ1.heap.put i none } w1 := by
  have key : ∀ j o, (σ1.heap.put i none).get j = some o → σ1.heap.get j = some o := fun j o hj => by
    rw [Tr.get_put] at hj
    by_cases e : i = j
    · rw [if_pos e] at hj; cases hj
    · rw [if_neg e] at hj; exact hj
  exact ⟨h.ext, h.only, h.next, fun j o hj => h.lv j o (key j o hj), fun j o b c hj => h.nw j o b c (key j o hj),
    ⟨fun j o hj => h.rel.live j o (key j o hj), fun j k o p b c d hj hk => h.rel.inj j k o p b c d (key j o hj) (key k p hk), h.rel.glob, h.rel.gn⟩, h.keep⟩

theorem evo_heap {ρ1 : Rho} {σ σ1 σ2 : SW} {w w1 : World} (h : Evo G ρ σ w ρ1 σ1 w1) (hn : σ2.next = σ1.next) (hg : ∀ j, σ2.heap.get j = σ1.heap.get j) : Evo G ρ σ w ρ1 σ2 w1 :=
  ⟨h.ext, fun i hi => h.only i (by rw [← hn]; exact hi), by rw [hn]; exact h.next, fun j o hj => h.lv j o (by rw [← hg]; exact hj), fun j o b c hj => h.nw j o b c (by rw [← hg]; exact hj),
    ⟨fun j o hj => by rw [hn]; exact h.rel.live j o (by rw [← hg]; exact hj), fun j k o p b c d hj hk => h.rel.inj j k o p b c d (by rw [← hg]; exact hj) (by rw [← hg]; exact hk), h.rel.glob, by rw [hn]; exact h.rel.gn⟩, h.keep⟩

/-- A row goes on under a new number, in its old place. -/
theorem evo_move {σ : SW} {w w' : World} (h : Rel G ρ σ w) (hf : ρ σ.next = none) {i b c : Nat} {o ob : SObj} {ob' : Obj} (hG : G ≤ i) (hg : σ.heap.get i = some o) (hρ : ρ i = some (b, c)) (hch : Chg1 w w' b ob')
    (ho : ObjR (upd ρ σ.next (b, c)) c ob ob') : Evo G ρ σ w (upd ρ σ.next (b, c)) { heap := (σ.heap.put i none).put σ.next (some ob), next := σ.next + 1 } w' := by
  have hx : Ext ρ (upd ρ σ.next (b, c)) := upd_ext hf
  have hlt := h.get_lt hg
  have key : ∀ j p, ((σ.heap.put i none).put σ.next (some ob)).get j = some p → (j = σ.next ∧ p = ob) ∨ (j ≠ σ.next ∧ j ≠ i ∧ σ.heap.get j = some p) := fun j p hj => by
    simp only [Tr.get_put] at hj
    by_cases e : σ.next = j
    · rw [if_pos e] at hj; cases hj; exact .inl ⟨e.symm, rfl⟩
    · rw [if_neg e] at hj
      by_cases e' : i = j
      · rw [if_pos e'] at hj; cases hj
      · rw [if_neg e'] at hj; exact .inr ⟨Ne.symm e, Ne.symm e', hj⟩
  refine ⟨hx, fun j hj => upd_other (by simp only at hj; omega), Nat.le_succ _, fun j p hj hn => ?_, fun j p b1 c1 hj hn hρj => ?_, ⟨fun j p hj => ?_, fun j k p q b1 c1 d1 hj hk hρj hρk => ?_, fun g hg => ?_, Nat.le_trans h.gn (Nat.le_succ _)⟩, ⟨hch.os, hch.tape, hch.output, by rw [hch.size]; exact Nat.le_refl _, fun k hk hn => hch.other k fun e => ?_⟩⟩
  · rcases key j p hj with ⟨e, _⟩ | ⟨_, _, hj'⟩
    · omega
    · exact ⟨p, hj'⟩
  · rcases key j p hj with ⟨e, _⟩ | ⟨e, _, hj'⟩
    · subst e; rw [upd_same] at hρj; cases hρj; exact .inr ⟨i, o, c, hG, hg, hρ⟩
    · have := h.get_lt hj'; omega
  · rcases key j p hj with ⟨e, e'⟩ | ⟨e, e', hj'⟩
    · subst e; subst e'
      exact ⟨Nat.lt_succ_self _, b, c, ob', upd_same _ _ _, hch.at_, ho⟩
    · obtain ⟨h1, b2, c2, o2, h2, h3, h4⟩ := h.live j p hj'
      refine ⟨by simp only; omega, b2, c2, o2, by rw [upd_other e]; exact h2, ?_, h4.mono hx⟩
      rw [hch.other b2 (fun eb => e' (h.inj j i p o b c2 c hj' hg (by rw [h2, eb]) hρ))]
      exact h3
  · rcases key j p hj with ⟨e, _⟩ | ⟨e, e', hj'⟩ <;> rcases key k q hk with ⟨f, _⟩ | ⟨f, f', hk'⟩
    · rw [e, f]
    · subst e
      rw [upd_same] at hρj; cases hρj
      rw [upd_other f] at hρk
      exact absurd (h.inj k i q o b d1 c hk' hg hρk hρ) f'
    · subst f
      rw [upd_same] at hρk; cases hρk
      rw [upd_other e] at hρj
      exact absurd (h.inj j i p o b c1 c hj' hg hρj hρ) e'
    · rw [upd_other e] at hρj
      rw [upd_other f] at hρk
      exact h.inj j k p q b1 c1 d1 hj' hk' hρj hρk
  · obtain ⟨d, hd⟩ := h.glob g hg
    exact ⟨d, hx g _ hd⟩
  · subst e; exact hn i o c hG hg hρ

theorem grownCap_le (w : World) (need old : Nat) (e : TypeId) : need ≤ grownCap w need old e := by
  unfold grownCap Question.cut; exact Nat.le_add_right _ _

/-- The row that append makes. -/
theorem grow_sound {σ : SW} {w : World} (hr : Rel G ρ σ w) (hf : ρ σ.next = none) {t tx ty el : TypeId} {ei : TypeInfo} {z : List Value} (hu : und P t = some (.slice el)) (hei : inf P el = some ei) (hz : zeroC P el = some z)
    {base : Option Addr} {n c' m : Nat} {olds olds' news news' : List Value} {x' : Value} (hO : LR ρ olds olds') (hN : LR ρ news news') (hol : olds'.length = n * ei.size)
    (hold : (Builtin.firstCells ei.size n (.slice base n c')).run P w.drew = .ok olds'.toArray w.drew) (hs : Src P ei.size tx x' m news' w) (hg : c' < n + m) (h1 : n + m ≤ 1099511627776) (h2 : (n + m) * ei.bytes ≤ 70368744177664) :
    ∃ v' w' ρ', (Builtin.append_ #[t, tx] ty #[.slice base n c', x']).run P w = .ok v' w' ∧ VR ρ' (.slice (some ⟨σ.next, 0, none⟩) (n + m) CAPX) v' ∧ Evo G ρ σ w ρ' (σ.push (.row (olds ++ news) el ei.size)) w' := by
  obtain ⟨i, zv, hi, hzv, hzc, hzl, _⟩ := zeroC_some (ρ := ρ) hz
  have hii : i = ei := by rw [inf_some hei] at hi; cases hi; rfl
  subst hii
  have hfit : Builtin.nextslicecap (n + m) c' * i.bytes ≤ 281474976710656 := by
    have := Nat.mul_le_mul_right i.bytes (Room.nextslicecap_le' hg)
    rw [Nat.mul_assoc] at this
    omega
  have hrun := run_append_grow_src (P := P) w t tx ty el i zv (und_some hu) (inf_some hei) hzv base n c' olds' hold x' m news' hs hg (by omega) hfit
  refine ⟨_, _, upd ρ σ.next (w.heap.size, grownCap w (n + m) c' el), hrun, .slx _ _ _ _ (upd_same _ _ _) (grownCap_le _ _ _ _), evo_push hr hf ?_ rfl rfl rfl rfl⟩
  have hx : Ext ρ (upd ρ σ.next (w.heap.size, grownCap w (n + m) c' el)) := upd_ext hf
  have hcap := grownCap_le w (n + m) c' el
  have hON := (hO.append hN).mono hx
  have hnl := hs.newsLen
  have hlen : (olds' ++ news').length = (n + m) * i.size := by rw [List.length_append, hol, hnl, Nat.add_mul]
  have hsz : ((olds' ++ news').toArray ++ Builtin.zeroCells zv.cells (grownCap w (n + m) c' el - (n + m))).size = grownCap w (n + m) c' el * i.size := by
    rw [Array.size_append, List.size_toArray, hlen]
    have : (Builtin.zeroCells zv.cells (grownCap w (n + m) c' el - (n + m))).size = (grownCap w (n + m) c' el - (n + m)) * i.size := by
      simp [Builtin.zeroCells, hzc, hzl]
    rw [this, ← Nat.add_mul]
    congr 1; omega
  refine ⟨rfl, .inl rfl, hsz, ?_, ?_⟩
  · rw [hsz, hON.len, hlen]; exact Nat.mul_le_mul_right _ hcap
  · have : (((olds' ++ news').toArray ++ Builtin.zeroCells zv.cells (grownCap w (n + m) c' el - (n + m))).toList.take (olds ++ news).length) = olds' ++ news' := by
      rw [hON.len, Array.toList_append, List.take_append_of_le_length (by simp), List.take_of_length_le (by simp)]
    rw [this]
    exact hON

theorem append_sound (hG : G = P.globals.size) {σ σ' : SW} {w : World} (hr : Rel G ρ σ w) (hf : Fresh ρ σ σ') {t tx ty : TypeId} {s x s' x' v : Value} (hs : VR ρ s s') (hx : VR ρ x x') (h : appendS P t tx s x σ = some (v, σ')) :
    ∃ v' w' ρ', (Builtin.append_ #[t, tx] ty #[s', x']).run P w = .ok v' w' ∧ VR ρ' v v' ∧ Evo G ρ σ w ρ' σ' w' := by
  unfold appendS at h
  split at h
  · rename_i el base n c hu
    split at h
    · rename_i ei z hei hz hk
      have hk' : (∃ e', P.underlying tx = some (.slice e')) ∨ P.underlying tx = some .string := by
        split at hk
        · rename_i e' he; exact .inl ⟨e', und_some he⟩
        · rename_i he; exact .inr (und_some he)
        · cases hk
      split at h
      · rename_i m news hsrc
        have hone := (cond_none h).1
        replace h := (cond_none h).2
        simp only [Bool.not_eq_false'] at hone
        obtain ⟨news', hN, hSrc⟩ := src_sound hr hx hk' hsrc hone
        cases hm : Nat.beq m 0 with
        | true =>
          rw [hm, cond_true] at h
          have hm0 := Nat.eq_of_beq_eq_true hm
          subst hm0
          have hn0 : news' = [] := by have := hSrc.newsLen; simp at this; exact this
          subst hn0
          split at h
          · obtain ⟨hb, h⟩ := cond_some h
            cases h
            simp only [Bool.and_eq_true] at hb
            have h1 := Nat.eq_of_beq_eq_true hb.1
            have h2 := Nat.eq_of_beq_eq_true hb.2
            subst h1; subst h2
            cases hs
            refine ⟨.slice none 0 0, w, ρ, ?_, .snil 0 0, Evo.refl hr⟩
            have hl := hSrc.len
            have hc := hSrc.cells
            rcases hSrc.kind with ⟨e', hk⟩ | hk <;>
              simp [Builtin.append_, run_underlying (und_some hu), run_underlying hk, run_sizeOf' hei, hl, hc]
          · rename_i a
            obtain ⟨hb, h⟩ := cond_some h
            cases h
            have hinv : ∃ b off c', s' = .slice (some ⟨b, off, none⟩) n c' ∧ n ≤ c' := by
              cases hs with
              | sl i off _ _ b cc hρ hc =>
                simp only [Bool.or_eq_true] at hb
                rcases hb with hb | hb
                · exact absurd (Nat.eq_of_beq_eq_true hb) hc.1
                · exact ⟨b, off, _, rfl, Nat.le_of_ble_eq_true hb⟩
              | slx i _ b cc hρ hn => exact ⟨b, 0, _, rfl, hn⟩
              | sly i off _ b cc c' hρ hn => exact ⟨b, off, _, rfl, hn⟩
            obtain ⟨b, off, c', rfl, hle⟩ := hinv
            have hrun := run_append_room_src (P := P) w t tx ty el ei (und_some hu) (inf_some hei) b off n c' x' 0 [] hSrc (by omega) (fun j hj => by simp at hj) (fun j hj => by simp at hj)
            exact ⟨_, w, ρ, hrun, hs, Evo.refl hr⟩
        | false =>
          rw [hm, cond_false] at h
          have hbd := (cond_none h).1
          replace h := (cond_none h).2
          simp only [Bool.not_eq_false', Bool.and_eq_true] at hbd
          have hb1 := Nat.le_of_ble_eq_true hbd.1
          have hb2 := Nat.le_of_ble_eq_true hbd.2
          have hm0 : m ≠ 0 := fun e => by subst e; simp at hm
          split at h
          · obtain ⟨hb, h⟩ := cond_some h
            cases h
            simp only [Bool.and_eq_true] at hb
            have h1 := Nat.eq_of_beq_eq_true hb.1
            have h2 := Nat.eq_of_beq_eq_true hb.2
            subst h1; subst h2
            cases hs
            have := grow_sound (ty := ty) hr (hf _ (Nat.le_refl _) (Nat.lt_succ_self _)) hu hei hz (base := none) (n := 0) (c' := 0) (m := m) (LR.nil ρ) hN (by simp) (run_firstCells_none _ _ _ _ _) hSrc (by omega) hb1 hb2
            simpa [SW.push] using this
          · rename_i i off
            split at h
            · rename_i cs hcs
              have hol := (cond_none h).1
              replace h := (cond_none h).2
              simp only [Bool.not_eq_false', Bool.and_eq_true] at hol
              have hlen := Nat.eq_of_beq_eq_true hol.1
              obtain ⟨b, cc, c', e0, hρ, ⟨fr, hfr, hw⟩, hL, hcle⟩ := cells_live hr hcs
              obtain ⟨b', cc', c2, hρ', rfl, hcap⟩ := hs.slice_inv
              rw [hρ] at hρ'; cases hρ'
              obtain ⟨olds', hO, hcell, hex⟩ := cells_at (off := off) (n := n * ei.size) hL hw rfl
              have holl : olds'.length = n * ei.size := by rw [← hO.len]; exact hlen
              have hfirst : (Builtin.firstCells ei.size n (.slice (some ⟨b, off, none⟩) n c2)).run P w.drew = .ok olds'.toArray w.drew :=
                run_firstCells_some w.drew ei.size n _ n c2 olds' holl (by simpa using hcell)
              cases hcx : Nat.beq c CAPX with
              | true =>
                rw [hcx, cond_true] at h
                have hcx := Nat.eq_of_beq_eq_true hcx
                subst hcx
                obtain ⟨hc1, _⟩ | ⟨_, rfl, rfl, hncc⟩ | ⟨hc1, _⟩ := hcap
                · exact absurd rfl hc1
                rotate_left
                · exact absurd hc1 (by have := capy_lt; omega)
                split at h
                · rename_i cs0 e sz hg
                  obtain ⟨hb, h⟩ := cond_some h
                  cases h
                  simp only [Bool.and_eq_true] at hb
                  obtain ⟨⟨⟨⟨_, he⟩, hsz⟩, hGi⟩, hs0⟩ := hb
                  have he := Nat.eq_of_beq_eq_true he
                  have hsz := Nat.eq_of_beq_eq_true hsz
                  have hGi : G ≤ i := by rw [hG]; exact Nat.le_of_ble_eq_true hGi
                  have hs0 := blt_lt hs0
                  subst he; subst hsz
                  have hcs' : cs0 = cs := by unfold cellsS at hcs; rw [hg] at hcs; cases hcs; rfl
                  subst hcs'
                  obtain ⟨_, b1, cc1, o1, hρ1, hw1, ho1⟩ := hr.live _ _ hg
                  rw [hρ] at hρ1; cases hρ1
                  rw [hw] at hw1; cases hw1
                  simp only [ObjR] at ho1
                  obtain ⟨rfl, _, hszc, hcl, _⟩ := ho1
                  by_cases hroom : n + m ≤ c2
                  · -- in place
                    have hnl := hSrc.newsLen
                    have hmul : (n + m) * ei.size ≤ c2 * ei.size := Nat.mul_le_mul_right _ hroom
                    have hend : n * ei.size + news'.length ≤ c'.size := by rw [hnl, ← Nat.add_mul, hszc]; exact hmul
                    have hrun := run_append_room_src (P := P) w t tx ty e0 ei (und_some hu) (inf_some hei) b 0 n c2 x' m news' hSrc hroom (fun j hj => by rw [cell_at hw]; simp; omega) (fun j hj => frozen_no hw hfr (by omega))
                    have hch := setCells_chg news' (0 + n * ei.size) hw (by omega)
                    refine ⟨_, _, _, hrun, .slx _ _ _ _ (upd_same _ _ _) hroom, evo_move hr (hf _ (Nat.le_refl _) (Nat.lt_succ_self _)) hGi hg hρ hch ⟨rfl, by rw [show (⟨lay c'.toList (0 + n * ei.size) news'⟩ : Array Value).size = c'.size from lay_length (by simp; omega)]; exact hfr, ?_, ?_, ?_⟩⟩
                    · have := lay_length (c := c'.toList) (off := 0 + n * ei.size) (vs := news') (by simp; omega)
                      simp at this ⊢; omega
                    · have := lay_length (c := c'.toList) (off := 0 + n * ei.size) (vs := news') (by simp; omega)
                      have h3 := (hO.append hN).len
                      rw [List.length_append, List.length_append, holl] at h3
                      rw [List.length_append, h3]
                      simp at this ⊢; omega
                    · have hx0 : Ext ρ (upd ρ σ.next (b, c2)) := upd_ext (hf _ (Nat.le_refl _) (Nat.lt_succ_self _))
                      have hle0 : 0 + n * ei.size ≤ cs0.length := by
                        have := hlen; simp at this; omega
                      have hod : olds' = c'.toList.take (n * ei.size) := by have := hex hle0; simpa using this
                      have h3 := (hO.append hN).len
                      have htake : (lay c'.toList (0 + n * ei.size) news').take ((cs0.drop 0).take (n * ei.size) ++ news).length = olds' ++ news' := by
                        rw [h3, hod]
                        unfold lay
                        rw [Nat.zero_add, ← List.append_assoc, List.take_append_of_le_length (by simp), List.take_of_length_le (by simp)]
                      simp only
                      rw [htake]
                      exact (hO.append hN).mono hx0
                  · have := grow_sound (ty := ty) hr (hf _ (Nat.le_refl _) (Nat.lt_succ_self _)) hu hei hz (base := some ⟨b, 0, none⟩) (n := n) (c' := c2) (m := m) hO hN holl hfirst hSrc (by omega) hb1 hb2
                    obtain ⟨v', w', ρ', h1, h2, h3⟩ := this
                    refine ⟨v', w', ρ', h1, h2, ?_⟩
                    have h4 := evo_erase h3 i
                    have hine : σ.next ≠ i := by have := hr.get_lt hg; omega
                    refine evo_heap h4 rfl fun j => ?_
                    simp only [SW.push, Tr.get_put]
                    by_cases e1 : σ.next = j
                    · subst e1; rw [if_pos rfl, if_neg (Ne.symm hine), if_pos rfl]
                    · rw [if_neg e1, if_neg e1]
                · cases h
              | false =>
                rw [hcx, cond_false] at h
                obtain ⟨hb, h⟩ := cond_some h
                cases h
                have hlt := blt_lt hb
                obtain ⟨_, _, rfl⟩ | ⟨e1, _⟩ | ⟨e1, _⟩ := hcap
                · exact grow_sound (ty := ty) hr (hf _ (Nat.le_refl _) (Nat.lt_succ_self _)) hu hei hz (base := some ⟨b, off, none⟩) (n := n) (m := m) hO hN holl hfirst hSrc hlt hb1 hb2
                · subst e1; simp at hcx
                · have : CAPY = 4611686018427387903 := rfl
                  omega
            · cases h
          · cases h
      · cases h
    · cases h
  · cases h

/-- Bytes of a text, in a row of their own. -/
theorem toBytes_sound {σ σ' : SW} {w : World} (hr : Rel G ρ σ w) (hf : Fresh ρ σ σ') {src dst el : TypeId} {b : ByteArray} {v : Value} (hs : und P src = some .string) (hd : und P dst = some (.slice el)) (h : toBytesS P el b σ = some (v, σ')) :
    ∃ v' w' ρ', (Go.convert src dst (.string b)).run P w = .ok v' w' ∧ VR ρ' v v' ∧ Evo G ρ σ w ρ' σ' w' := by
  unfold toBytesS at h
  split at h
  · rename_i ei z hel hei hz
    obtain ⟨hb, h⟩ := cond_some h
    simp only [Bool.and_eq_true] at hb
    cases h
    have hf := hf σ.next (Nat.le_refl _) (Nat.lt_succ_self _)
    have hrun := run_bytes_of_string (P := P) w src dst el b (und_some hs) (und_some hd) (und_some hel)
    have hcap := grownCap_le w b.size 0 el
    refine ⟨_, _, upd ρ σ.next (w.heap.size, grownCap w b.size 0 el), hrun, .slx _ _ _ _ (upd_same _ _ _) hcap, ?_⟩
    have hsz : (bytesRow b (grownCap w b.size 0 el)).size = grownCap w b.size 0 el := by
      have : b.data.size = b.size := rfl
      simp [bytesRow, this]; omega
    have hbl : (b.data.toList.map fun u => Value.int .u8 (u.toNat : Int)).length = b.size := by simp
    refine evo_push (σ := σ) hr hf (ob := .row (b.data.toList.map fun u => .int .u8 u.toNat) el 1) (ob' := .cells (bytesRow b (grownCap w b.size 0 el)) el ((bytesRow b (grownCap w b.size 0 el)).size, (bytesRow b (grownCap w b.size 0 el)).size + 1)) ?_ rfl rfl rfl rfl
    refine ⟨rfl, .inr (Nat.le_refl _), by rw [hsz, Nat.mul_one], by rw [hsz, hbl]; exact hcap, ?_⟩
    have ht : ((bytesRow b (grownCap w b.size 0 el)).toList.take (b.data.toList.map fun u => Value.int .u8 (u.toNat : Int)).length) = b.data.toList.map fun u => Value.int .u8 (u.toNat : Int) := by
      simp only [bytesRow, Array.toList_append, Array.toList_map]
      rw [List.take_append_of_le_length (by simp), List.take_of_length_le (by simp)]
    rw [ht]
    exact LR.of_plain fun v hv => by
      obtain ⟨u, _, rfl⟩ := List.mem_map.1 hv
      rfl
  · cases h

/-- Zeros appended to nothing. -/
theorem make_sound {σ σ' : SW} {w : World} (hr : Rel G ρ σ w) (hf : Fresh ρ σ σ') {t tx ty : TypeId} {s s' v : Value} {k : Nat} {kq : IntKind} (hs : VR ρ s s') (htx : ∃ kn, P.underlying tx = some (.int kn)) (h : makeS P t s k σ = some (v, σ')) :
    ∃ v' w' ρ', (Builtin.append_ #[t, tx] ty #[s', .int kq k]).run P w = .ok v' w' ∧ VR ρ' v v' ∧ Evo G ρ σ w ρ' σ' w' := by
  obtain ⟨kn, htx⟩ := htx
  unfold makeS at h
  split at h
  · rename_i el hu
    cases hs
    split at h
    · rename_i ei z hei hz
      obtain ⟨i, zv, hi, hzv, hzc, hzl, _⟩ := zeroC_some (ρ := ρ) hz
      have hii : i = ei := by rw [inf_some hei] at hi; cases hi; rfl
      subst hii
      cases hk : Nat.beq k 0 with
      | true =>
        rw [hk, cond_true] at h
        have hk0 := Nat.eq_of_beq_eq_true hk
        subst hk0
        cases h
        refine ⟨.slice none 0 0, w, ρ, ?_, .snil 0 0, Evo.refl hr⟩
        simp [Builtin.append_, run_underlying (und_some hu), run_underlying htx, run_sizeOf' hei, run_typeInfo' hei, asInt, asIntOf, IntKind.wrap_i64]
      | false =>
        rw [hk, cond_false] at h
        obtain ⟨hb, h⟩ := cond_some h
        simp only [Bool.and_eq_true] at hb
        have hb1 := Nat.le_of_ble_eq_true hb.1.1.1
        have hb2 := Nat.le_of_ble_eq_true hb.1.1.2
        have hb3 := Nat.le_of_ble_eq_true hb.1.2
        have hsz0 := blt_lt hb.2
        have hk0 : 0 < k := Nat.pos_of_ne_zero fun e => by subst e; simp at hk
        cases h
        have hf := hf σ.next (Nat.le_refl _) (Nat.lt_succ_self _)
        · have hfit : Builtin.nextslicecap (0 + k) 0 * i.bytes ≤ 281474976710656 := by
            have := Nat.mul_le_mul_right i.bytes (Room.nextslicecap_le' (show 0 < 0 + k by omega))
            rw [Nat.mul_assoc] at this
            have : (0 + k) * i.bytes ≤ 70368744177664 := by rw [Nat.zero_add]; exact hb2
            omega
          have hrun := Lib.run_append_grow_zeros (P := P) w t tx ty el i zv kq kn (und_some hu) htx (inf_some hei) hzv none 0 0 [] (run_firstCells_none _ _ _ _ _) k hk0 hsz0 (by omega) (by omega) (by omega) hfit
          rw [Nat.zero_add] at hrun
          have hcap := grownCap_le w k 0 el
          refine ⟨_, _, upd ρ σ.next (w.heap.size, grownCap w k 0 el), hrun, .slx _ _ _ _ (upd_same _ _ _) hcap, ?_⟩
          have hzs : ∀ m, (Builtin.zeroCells zv.cells m).size = m * i.size := fun m => by simp [Builtin.zeroCells, hzc, hzl]
          have hrl : ((List.range (k * i.size)).map fun j => z.getD (j % z.length) undef).length = k * i.size := by simp
          have hzk : (Builtin.zeroCells zv.cells k).toList = (List.range (k * i.size)).map fun j => z.getD (j % z.length) undef := by
            apply List.ext_getElem?
            intro j
            by_cases hj : j < k * i.size
            · have hm : j % z.length < z.length := Nat.mod_lt _ (by omega)
              simp [Builtin.zeroCells, hzc, hzl, hj, List.getD]
              rw [hzl] at hm
              simp [hm, hzl]
            · rw [List.getElem?_eq_none (by rw [Array.length_toList, hzs]; omega), List.getElem?_eq_none (by omega)]
          have hsz : ((#[] ++ Builtin.zeroCells zv.cells k) ++ Builtin.zeroCells zv.cells (grownCap w k 0 el - k)).size = grownCap w k 0 el * i.size := by
            rw [Array.size_append, Array.size_append, hzs, hzs]
            simp only [List.size_toArray, List.length_nil, Nat.zero_add]
            rw [← Nat.add_mul]
            congr 1; omega
          refine evo_push (σ := σ) hr hf (ob := .row ((List.range (k * i.size)).map fun j => z.getD (j % z.length) undef) el i.size) ?_ rfl rfl rfl rfl
          refine ⟨rfl, .inl rfl, hsz, ?_, ?_⟩
          · rw [hsz, hrl]; exact Nat.mul_le_mul_right _ hcap
          · have ht : ((#[] ++ Builtin.zeroCells zv.cells k) ++ Builtin.zeroCells zv.cells (grownCap w k 0 el - k)).toList.take ((List.range (k * i.size)).map fun j => z.getD (j % z.length) undef).length = (List.range (k * i.size)).map fun j => z.getD (j % z.length) undef := by
              rw [hrl, Array.toList_append, Array.toList_append, hzk]
              simp only [List.nil_append]
              rw [List.take_append_of_le_length (by simp), List.take_of_length_le (by simp)]
            rw [ht]
            refine LR.of_plain fun v hv => ?_
            obtain ⟨j, hj, rfl⟩ := List.mem_map.1 hv
            have hj := List.mem_range.1 hj
            have hm : j % z.length < z.length := Nat.mod_lt _ (by omega)
            rw [List.getD_eq_getElem?_getD, List.getElem?_eq_getElem hm]
            exact zeroC_plain hz _ (List.getElem_mem hm)
    · cases h
  · cases h

theorem freeze_chg {w : World} {b : Nat} {c : Array Value} {e : TypeId} {fr : Nat × Nat} (h : w.heap[b]? = some (.cells c e fr)) :
    Chg1 w (w.freeze ⟨b, c.size, none⟩ 1) b (.cells c e (if fr.1 == fr.2 then (c.size, c.size + 1) else (min fr.1 c.size, max fr.2 (c.size + 1)))) := by
  obtain ⟨lo, hi⟩ := fr
  unfold World.freeze
  rw [if_neg (by decide)]
  refine ⟨rfl, rfl, rfl, by simp, ?_, fun k hk => ?_⟩
  · simp only [Array.getElem?_modify, if_true, h, Option.map_some]
  · simp only [Array.getElem?_modify]
    rw [if_neg (Ne.symm hk)]
theorem nofr_freeze {fr : Nat × Nat} {n : Nat} (h : NoFr fr n) : NoFr (if fr.1 == fr.2 then (n, n + 1) else (min fr.1 n, max fr.2 (n + 1))) n := by
  unfold NoFr at h ⊢
  by_cases e : fr.1 = fr.2
  · rw [if_pos (by simpa using e)]; exact .inr (Nat.le_refl _)
  · rw [if_neg (by simpa using e)]
    refine .inr ?_
    simp only
    omega
/-- A slice of bytes converted to its own type. -/
theorem same_sound {σ : SW} {w : World} (hr : Rel G ρ σ w) {i off n b cc c' : Nat} {c0 : List Value} {t te el : TypeId} (hGi : G ≤ i) (hρ : ρ i = some (b, cc)) (hc : cellsS σ i = some c0) (ht : und P t = some (.slice te)) (ht' : und P t = some (.slice el)) (hel : und P el = some (.int .u8)) :
    ∃ w', (Go.convert t t (.slice (some ⟨b, off, none⟩) n c')).run P w = .ok (.slice (some ⟨b, off, none⟩) n c') w' ∧ Evo G ρ σ w ρ σ w' := by
  have hte : te = el := by rw [ht] at ht'; cases ht'; rfl
  subst hte
  unfold cellsS at hc
  have key : ∀ {o : SObj} {c1 : Array Value} {e : TypeId} {fr : Nat × Nat}, σ.heap.get i = some o → w.heap[b]? = some (.cells c1 e fr) → (∀ fr', NoFr fr' c1.size → ObjR ρ cc o (.cells c1 e fr')) → NoFr fr c1.size →
      ∃ w', (Go.convert t t (.slice (some ⟨b, off, none⟩) n c')).run P w = .ok (.slice (some ⟨b, off, none⟩) n c') w' ∧ Evo G ρ σ w ρ σ w' := by
    intro o c1 e fr hg hw ho hfr
    have hch := freeze_chg hw
    refine ⟨w.freeze ⟨b, c1.size, none⟩ 1, ?_, ?_⟩
    · have hsh : w.shape? b = some (e, c1.size) := by unfold World.shape?; rw [hw]
      simp [Go.convert, run_underlying (und_some ht), run_underlying (und_some hel), markStringish, hsh]
    · have := evo_chg hr hGi hg hρ hch (ho _ (nofr_freeze hfr))
      refine evo_heap this rfl fun j => ?_
      simp only [Tr.get_put]
      by_cases e1 : i = j
      · subst e1; rw [if_pos rfl, hg]
      · rw [if_neg e1]
  split at hc
  · rename_i c2 e2 hg
    obtain ⟨_, b', cc', o', hρ', hw, ho⟩ := hr.live _ _ hg
    rw [hρ] at hρ'; cases hρ'
    cases o' <;> simp only [ObjR] at ho
    exact key hg hw (fun fr' h => ⟨ho.1, h, ho.2.2⟩) ho.2.1
  · rename_i c2 e2 s2 hg
    obtain ⟨_, b', cc', o', hρ', hw, ho⟩ := hr.live _ _ hg
    rw [hρ] at hρ'; cases hρ'
    cases o' <;> simp only [ObjR] at ho
    exact key hg hw (fun fr' h => ⟨ho.1, h, ho.2.2⟩) ho.2.1
  · cases hc
end Go.Sh
