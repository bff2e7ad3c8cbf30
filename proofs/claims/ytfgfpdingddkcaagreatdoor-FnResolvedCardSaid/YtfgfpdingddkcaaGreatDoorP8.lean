/- What the functions compute, in plain words. -/
import Derived.Test.YtfgfpdingddkcaaGreatDoorP7
set_option linter.unusedSectionVars false
set_option linter.unusedVariables false
set_option linter.unusedSimpArgs false
namespace Go.Proofs.YtfgfpdingddkcaaGreatDoor
open Go Go.Own
def Run (w : List Zn) (s : List UInt8) : Nat → Nat → Nat → Prop
 | k, 0, z => k = z
 | k, j + 1, z => ∃ m, nextZ w k s = some m ∧ Run w s m j z
theorem Run.snoc {w : List Zn} {s : List UInt8} : ∀ {j k z m : Nat}, Run w s k j z → nextZ w z s = some m → Run w s k (j + 1) m
 | 0, k, z, m, h, hn => by
   have : k = z := h
   subst this
   exact ⟨m, hn, rfl⟩
 | j + 1, k, z, m, ⟨x, hx, hr⟩, hn => ⟨x, hx, hr.snoc hn⟩
def Links (s : List UInt8) : List Rec → List UInt8 → Prop
 | [], n => s = n
 | r :: rs, n => r.name = s ∧ r.type = 5 ∧ Links r.data rs n
theorem Links.snoc : ∀ {s : List UInt8} {l : List Rec} {r : Rec}, Links s l r.name → r.type = 5 → Links s (l ++ [r]) r.data
 | s, [], r, h, ht => ⟨Eq.symm h, ht, rfl⟩
 | s, x :: l, r, ⟨h1, h2, h3⟩, ht => ⟨h1, h2, h3.snoc ht⟩
structure St (w : List Zn) (s0 : List UInt8) (t : Tld) (z : Nat) (name : List UInt8) : Prop where
 nam : isName name = true
 links : Links s0 t.chain name
 eight : t.chain.length ≤ 8
 run : ∃ j : Nat, Run w name 0 j z ∧ ((t.chain.length + j : Nat) : Int) ≤ t.asks
 own : ∀ hz : z < w.length, zAt w[z].apex w = some z
 up : ∀ hz : z < w.length, Up name w[z].apex
structure Fin (w : List Zn) (s0 : List UInt8) (k : Int) (t : Tld) : Prop where
 ex : ∃ (name : List UInt8) (z : Nat) (hz : z < w.length), isName name = true ∧ Links s0 t.chain name ∧ t.chain.length ≤ 8 ∧ (∃ j : Nat, Run w name 0 j z ∧ ((t.chain.length + j + 1 : Nat) : Int) ≤ t.asks) ∧ zAt w[z].apex w = some z ∧ Up name w[z].apex ∧ nextZ w z name = none ∧ t.zone = w[z].apex ∧ t.kind = (lookF w[z] name k).kind ∧ t.recs = (lookF w[z] name k).recs
theorem zAt_root {w : List Zn} (h : 0 < w.length) : zAt w[0].apex w = some 0 := by
 match w, h with
 | z :: zs, _ => simp [zAt]
theorem root_apex {w : List Zn} (hg : WGood w) : w[0]'hg.pos = w[0]'hg.pos ∧ (w[0]'hg.pos).apex = [] := by
 have h := hg.root
 rw [getD_lt hg.pos] at h
 exact ⟨rfl, h⟩
theorem St.first {w : List Zn} {s : List UInt8} (hg : WGood w) (hn : isName s = true) : St w s Tld.nul 0 s := by
 refine ⟨hn, rfl, by simp [Tld.nul], ⟨0, rfl, by simp [Tld.nul]⟩, fun hz => zAt_root hz, fun hz => ?_⟩
 have := (root_apex hg).2
 rw [this]
 exact up_nil _ _ (Nat.le_refl _)
theorem St.step {w : List Zn} {s0 : List UInt8} {t : Tld} {z j : Nat} {name : List UInt8} (h : St w s0 t z name) (hz : z < w.length) (hn : nextZ w z name = some j) (hj : j < w.length) : St w s0 ⟨t.kind, t.recs, t.chain, t.zone, t.asks + 1⟩ j name := by
 obtain ⟨a, b, c, ⟨i, d1, d2⟩, e, f⟩ := h
 obtain ⟨hm, hup, _, hc⟩ := nextZ_some hz hn
 refine ⟨a, b, c, ⟨i + 1, d1.snoc hn, by simp only; omega⟩, fun hz' => ?_, fun hz' => hup⟩
 have h2 := hn
 unfold nextZ at h2
 rw [getD_lt hz, hc] at h2
 exact h2
theorem St.link {w : List Zn} {s0 : List UInt8} {t : Tld} {z : Nat} {name : List UInt8} {x : Rec} (h : St w s0 t z name) (hp : 0 < w.length) (h8 : t.chain.length < 8) (h5 : x.type = 5) (hx : x.name = name) (hd : isName x.data = true) (hg : WGood w) : St w s0 ⟨t.kind, t.recs, t.chain ++ [x], t.zone, t.asks + 1⟩ 0 x.data := by
 obtain ⟨a, b, c, ⟨i, d1, d2⟩, e, f⟩ := h
 subst hx
 refine ⟨hd, b.snoc h5, by simp; omega, ⟨0, rfl, by simp; omega⟩, fun hz => zAt_root hz, fun hz => ?_⟩
 have := (root_apex hg).2
 rw [this]
 exact up_nil _ _ (Nat.le_refl _)
theorem St.stop {w : List Zn} {s0 : List UInt8} {t : Tld} {z : Nat} {name : List UInt8} {k : Int} (h : St w s0 t z name) (hz : z < w.length) (hk : ¬ (lookF w[z] name k).kind = 3) : nextZ w z name = none := by
 unfold nextZ
 rw [getD_lt hz]
 cases hc : cutOf w[z].apex w[z].recs name with
 | none => rfl
 | some c =>
   exfalso
   apply hk
   unfold lookF
   rw [if_pos (bel_iff.2 (h.up hz)), hc]
theorem St.fin {w : List Zn} {s0 : List UInt8} {t : Tld} {z : Nat} {name : List UInt8} {k : Int} (h : St w s0 t z name) (hz : z < w.length) (hn : nextZ w z name = none) : Fin w s0 k ⟨(lookF w[z] name k).kind, (lookF w[z] name k).recs, t.chain, w[z].apex, t.asks + 1⟩ := by
 obtain ⟨a, b, c, ⟨i, d1, d2⟩, e, f⟩ := h
 exact ⟨name, z, hz, a, b, c, ⟨i, d1, by simp only; omega⟩, e hz, f hz, hn, rfl, rfl, rfl⟩
theorem byF_first {z : Zn} {o n : List UInt8} {k : Int} (hg : z.Good) {x : Rec} {xs : List Rec} (hk : (byF z o n k).kind = 2) (hx : (byF z o n k).recs = x :: xs) : x.name = n ∧ isName x.data = true := by
 unfold byF at hk hx
 split at hk
 ·rename_i h1
  rw [if_pos h1] at hx
  split at hk
  ·simp at hk
  ·rename_i h5
   rw [if_neg h5] at hx
   simp only at hx
   have hm : x ∈ (z.recs.filter (isAt o 5)).map (Rec.as n) := by rw [hx]; simp
   obtain ⟨r, hr, rfl⟩ := List.mem_map.1 hm
   rw [List.mem_filter] at hr
   have hat := hr.2
   unfold isAt at hat
   simp at hat
   refine ⟨rfl, ?_⟩
   have hok := (rises_of hg.ris).ok r hr.1
   unfold Rec.ok at hok
   simp only [Bool.and_eq_true] at hok
   have hd := hok.1
   rw [hat.2] at hd
   unfold dataOk at hd
   simp only [show ¬ ((5 : Int) = 1) by decide, if_false, or_true, if_true] at hd
   unfold isTgt at hd
   simp only [Bool.and_eq_true] at hd
   exact hd.2.1
 ·simp at hk
theorem lookF_first {z : Zn} {n : List UInt8} {k : Int} (hg : z.Good) {x : Rec} {xs : List Rec} (hk : (lookF z n k).kind = 2) (hx : (lookF z n k).recs = x :: xs) : x.name = n ∧ isName x.data = true := by
 unfold lookF at hk hx
 split at hk
 ·rename_i hb
  rw [if_pos hb] at hx
  split at hk
  ·simp at hk
  ·rename_i hc
   rw [hc] at hx
   simp only at hx
   split at hk
   ·rename_i ht
    rw [if_pos ht] at hx
    exact byF_first hg hk hx
   ·rename_i ht
    rw [if_neg ht] at hx
    split at hk
    ·rename_i ht2
     rw [if_pos ht2] at hx
     exact byF_first hg hk hx
    ·simp at hk
 ·simp at hk
theorem resolve_K {w : List Zn} {k : Int} (hw : WIn lim w) (hg : WGood w) (hk : k ≠ 0) {s0 : List UInt8} : ∀ (m : Nat) (t : Tld) (z : Nat) (name : List UInt8), t.asks + m = 24 → 0 ≤ t.asks → t.In → ∀ hz : z < w.length, name.length ≤ lim → St w s0 t z name →
 ∃ r : Nat × List D, (r = (1, []) ∨ ∃ t' : Tld, (t'.In ∧ Fin w s0 k t') ∧ r = (0, [t'.d, .bool true])) ∧
 loopF (fun l4 =>
       if (decide (((gd l4 1).fld 4).i < 24)) then
        if (inb (gd l4 2).i w.length) then
        (e_spec_l7Look.F [(gd (w.map Zn.d) (gd l4 2).i.toNat), (gd l4 0), (.int k)]).bind fun r7 =>
        (if ((r7.fld 0).i == 3) then
            (e_spec_l11Next.F [wdD w, (gd l4 2), (gd l4 0)]).bind fun r8 =>
            if (decide (r8.i ≥ 0)) then
             ou 1 [r8]
            else
             ou 0 []
          else
           ou 0 []).bind fun o8 =>
        sel2 o8.1 ((if ((r7.fld 0).i == 2) then
         ou 0 [(.bool (decide ((((gd l4 1).fld 2).l.length : Int) < 8)))]
         else
          ou 0 [(.bool false)]).bind fun o8 =>
         sel2 o8.1 (if (gd o8.2 0).b then
          if (inb 0 (r7.fld 2).l.length) then
          if (appOk 48 ((gd l4 1).fld 2).l ((gd (r7.fld 2).l 0) :: ([] : List D))) then
          ou 0 [((gd (r7.fld 2).l 0).fld 3), (((gd l4 1).setFld 4 (.int (IntKind.wrap .i64 (((gd l4 1).fld 4).i + 1)))).setFld 2 (D.lst (((gd l4 1).fld 2).l ++ ((gd (r7.fld 2).l 0) :: ([] : List D))))), (.int 0)]
          else none
          else none
          else
           ou 1 [(((((gd l4 1).setFld 4 (.int (IntKind.wrap .i64 (((gd l4 1).fld 4).i + 1)))).setFld 0 (r7.fld 0)).setFld 1 (r7.fld 2)).setFld 3 ((gd (w.map Zn.d) (gd l4 2).i.toNat).fld 0)), (.bool true)]) fun _ => none) fun n12 =>
        sel2 n12 (ou 0 [(gd l4 0), ((gd l4 1).setFld 4 (.int (IntKind.wrap .i64 (((gd l4 1).fld 4).i + 1)))), (gd o8.2 0)]) fun _ => none
        else none
       else
        ou 2 []) [.str name, t.d, .int z] = some r ∧
 loopF (fun l4 =>
       if (decide (((gd l4 1).fld 4).i < 24)) then
        if (inb (gd l4 2).i w.length) then
        (e_impl_lookUp.F [(gd (w.map Zn.d) (gd l4 2).i.toNat), (gd l4 0), (.int k)]).bind fun r7 =>
        (if ((r7.fld 0).i == 3) then
            (e_impl_World_find.F [wdD w, (r7.fld 1)]).bind fun r8 =>
            if (r8.fld 1).b then
             ou 1 [(r8.fld 0)]
            else
             ou 0 []
          else
           ou 0 []).bind fun o8 =>
        sel2 o8.1 ((if ((r7.fld 0).i == 2) then
         ou 0 [(.bool (decide ((((gd l4 1).fld 2).l.length : Int) < 8)))]
         else
          ou 0 [(.bool false)]).bind fun o8 =>
         sel2 o8.1 (if (gd o8.2 0).b then
          if (inb 0 (r7.fld 2).l.length) then
          if (appOk 48 ((gd l4 1).fld 2).l ((gd (r7.fld 2).l 0) :: ([] : List D))) then
          (e_impl_targetOf.F [(gd (r7.fld 2).l 0)]).bind fun r9 =>
          ou 0 [(r9.fld 0), (((gd l4 1).setFld 4 (.int (IntKind.wrap .i64 (((gd l4 1).fld 4).i + 1)))).setFld 2 (D.lst (((gd l4 1).fld 2).l ++ ((gd (r7.fld 2).l 0) :: ([] : List D))))), (.int 0)]
          else none
          else none
          else
           ou 1 [(((((gd l4 1).setFld 4 (.int (IntKind.wrap .i64 (((gd l4 1).fld 4).i + 1)))).setFld 0 (r7.fld 0)).setFld 1 (r7.fld 2)).setFld 3 ((gd (w.map Zn.d) (gd l4 2).i.toNat).fld 0)), (.bool true)]) fun _ => none) fun n12 =>
        sel2 n12 (ou 0 [(gd l4 0), ((gd l4 1).setFld 4 (.int (IntKind.wrap .i64 (((gd l4 1).fld 4).i + 1)))), (gd o8.2 0)]) fun _ => none
        else none
       else
        ou 2 []) [.str name, t.d, .int z] = some r := by
 have hlim : lim = 1048576 := rfl
 intro m
 induction m with
 | zero =>
   intro t z name ha _ hin hz hn hst
   refine ⟨(1, []), .inl rfl, loopF_exit (out_else (fun h => ?_) rfl), loopF_exit (out_else (fun h => ?_) rfl)⟩
   all_goals
    have h' : t.asks < 24 := of_decide_eq_true h
    omega
 | succ m ih =>
   intro t z name ha ha0 hin hz hn hst
   have hzz := hw.all _ (List.getElem_mem hz)
   have hzg := Zn.good_iff.1 (hg.good _ (List.getElem_mem hz))
   have hLI := f_lookUp (k := k) hzz hzg hn
   have hLS := f_l7Look hzz hzg hn hk
   obtain ⟨l1, l2, l3, l4⟩ := lookF_facts (n := name) (k := k) hzz
   have w1 : IntKind.wrap .i64 (t.asks + 1) = t.asks + 1 := by rw [wrap_id] <;> omega
   have e0 : gd [D.str name, t.d, D.int (z : Int)] 0 = .str name := rfl
   have e1 : gd [D.str name, t.d, D.int (z : Int)] 1 = t.d := rfl
   have e2 : (gd [D.str name, t.d, D.int (z : Int)] 2).i = (z : Int) := rfl
   have e4 : (t.d.fld 4).i = t.asks := rfl
   have ec : (t.d.fld 2).l = t.chain.map Rec.d := rfl
   have hnx := f_l11Next (s := name) hw hz hn
   have hgz : (w.map Zn.d)[z]? = some w[z].d := by simp [hz]
   -- the way out
   have hout : Tld.In ⟨(lookF w[z] name k).kind, (lookF w[z] name k).recs, t.chain, w[z].apex, t.asks + 1⟩ := ⟨l1, hin.chain⟩
   have hfin : nextZ w z name = none → Fin w s0 k ⟨(lookF w[z] name k).kind, (lookF w[z] name k).recs, t.chain, w[z].apex, t.asks + 1⟩ := fun h => hst.fin hz h
   generalize hf : lookF w[z] name k = f at hLI hLS l1 l2 l3 l4 hout hfin
   have g0 : (f.d.fld 0).i = f.kind := rfl
   have g1 : f.d.fld 1 = .str f.owner := rfl
   have g2 : (f.d.fld 2).l = f.recs.map Rec.d := rfl
   by_cases h3 : f.kind = 3
   ·have hc := l3 h3
    have hnext : nextZ w z name = zAt f.owner w := by
     unfold nextZ
     rw [getD_lt hz, hc]
    have hol : f.owner.length ≤ lim := by
     have := Up.le (cutOf_between hc).1; omega
    obtain ⟨n, hfd, hnj⟩ := f_wfind hw hg hol
    rw [hnext] at hnx
    cases hq : zAt f.owner w with
    | some j =>
      rw [hq] at hnx hfd
      have := hnj j hq
      subst this
      obtain ⟨hj, _, _⟩ := zAt_some hq
      have hnext' : nextZ w z name = some j := hnext.trans hq
      obtain ⟨r, hr, hS, hI⟩ := ih ⟨t.kind, t.recs, t.chain, t.zone, t.asks + 1⟩ j name (by simp only; omega) (by simp only; omega) ⟨hin.recs, hin.chain⟩ hj hn (hst.step hz hnext' hj)
      refine ⟨r, hr, ?_, ?_⟩
      ·rw [← hS]
       refine loopF_step ?_
       rw [e0, e1, e2, e4, Int.toNat_natCast, gd_zn hz, w1]
       refine out_if (decide_eq_true (by omega)) (out_if (inb_nat hz) (out_call hLS (out_bind (r := (1, [.int (j : Int)])) ?_ rfl)))
       rw [g0]
       exact out_if (by simp [h3]) (out_call hnx (out_if (decide_eq_true (show (j : Int) ≥ 0 by omega)) rfl))
      ·rw [← hI]
       refine loopF_step ?_
       rw [e0, e1, e2, e4, Int.toNat_natCast, gd_zn hz, w1]
       refine out_if (decide_eq_true (by omega)) (out_if (inb_nat hz) (out_call hLI (out_bind (r := (1, [.int (j : Int)])) ?_ rfl)))
       rw [g0, g1]
       exact out_if (by simp [h3]) (out_call hfd (out_if rfl rfl))
    | none =>
      rw [hq] at hnx hfd
      refine ⟨_, .inr ⟨_, ⟨hout, hfin (hnext.trans hq)⟩, rfl⟩, loopF_exit ?_, loopF_exit ?_⟩
      ·rw [e0, e1, e2, e4, Int.toNat_natCast, gd_zn hz, w1]
       refine out_if (decide_eq_true (by omega)) (out_if (inb_nat hz) (out_call hLS (out_bind (r := (0, [])) ?_ (sel0 (out_bind (r := (0, [.bool false])) ?_ (sel0 (out_else (by simp) rfl)))))))
       ·rw [g0]
        exact out_if (by simp [h3]) (out_call hnx (out_else (fun h => by have h' : (-1 : Int) ≥ 0 := of_decide_eq_true h; omega) rfl))
       ·rw [g0]; exact out_else (by simp [h3]) rfl
      ·rw [e0, e1, e2, e4, Int.toNat_natCast, gd_zn hz, w1]
       refine out_if (decide_eq_true (by omega)) (out_if (inb_nat hz) (out_call hLI (out_bind (r := (0, [])) ?_ (sel0 (out_bind (r := (0, [.bool false])) ?_ (sel0 (out_else (by simp) rfl)))))))
       ·rw [g0, g1]
        exact out_if (by simp [h3]) (out_call hfd (out_else (by simp [D.fld]) rfl))
       ·rw [g0]; exact out_else (by simp [h3]) rfl
   ·by_cases h2 : f.kind = 2 ∧ t.chain.length < 8
    ·obtain ⟨x, xs, hx, hx5, hxd⟩ := l4 h2.1
     obtain ⟨hxn, hxm⟩ := lookF_first hzg (by rw [hf]; exact h2.1) (by rw [hf]; exact hx)
     obtain ⟨r, hr, hS, hI⟩ := ih ⟨t.kind, t.recs, t.chain ++ [x], t.zone, t.asks + 1⟩ 0 x.data (by simp only; omega) (by simp only; omega) ⟨hin.recs, by simp; omega⟩ hg.pos hxd (hst.link hg.pos h2.2 hx5 hxn hxm hg)
     have ha1 : appOk 48 (t.chain.map Rec.d) [x.d] = true := by simp [appOk, smax_eq]; omega
     have hg0 : gd (f.recs.map Rec.d) 0 = x.d := by rw [hx]; rfl
     have hin0 : inb 0 (f.recs.map Rec.d).length = true := by rw [hx]; simp [inb]
     have hlen : (((t.chain.map Rec.d).length : Int)) = t.chain.length := by simp
     refine ⟨r, hr, ?_, ?_⟩
     ·rw [← hS]
      refine loopF_step ?_
      rw [e0, e1, e2, e4, ec, Int.toNat_natCast, gd_zn hz, w1]
      refine out_if (decide_eq_true (by omega)) (out_if (inb_nat hz) (out_call hLS (out_bind (r := (0, [])) ?_ (sel0 (out_bind (r := (0, [.bool true])) ?_ (sel0 (out_if rfl ?_)))))))
      ·rw [g0]; exact out_else (by simp [h3]) rfl
      ·rw [g0, hlen]
       refine out_if (by simp [h2.1]) ?_
       have : decide ((t.chain.length : Int) < 8) = true := decide_eq_true (by omega)
       rw [this]
      ·rw [g2, hg0]
       refine out_if hin0 (out_if ha1 ?_)
       show some (0, [D.str x.data, D.pair (.int t.kind) (.pair (.lst (t.recs.map Rec.d)) (.pair (.lst (t.chain.map Rec.d ++ [x.d])) (.pair (.str t.zone) (.pair (.int (t.asks + 1)) .unit)))), D.int 0]) = _
       simp [Tld.d]
     ·rw [← hI]
      refine loopF_step ?_
      rw [e0, e1, e2, e4, ec, Int.toNat_natCast, gd_zn hz, w1]
      refine out_if (decide_eq_true (by omega)) (out_if (inb_nat hz) (out_call hLI (out_bind (r := (0, [])) ?_ (sel0 (out_bind (r := (0, [.bool true])) ?_ (sel0 (out_if rfl ?_)))))))
      ·rw [g0]; exact out_else (by simp [h3]) rfl
      ·rw [g0, hlen]
       refine out_if (by simp [h2.1]) ?_
       have : decide ((t.chain.length : Int) < 8) = true := decide_eq_true (by omega)
       rw [this]
      ·rw [g2, hg0]
       refine out_if hin0 (out_if ha1 (out_call (f_targetOf hx5) ?_))
       show some (0, [D.str x.data, D.pair (.int t.kind) (.pair (.lst (t.recs.map Rec.d)) (.pair (.lst (t.chain.map Rec.d ++ [x.d])) (.pair (.str t.zone) (.pair (.int (t.asks + 1)) .unit)))), D.int 0]) = _
       simp [Tld.d]
    ·have hlen : (((t.chain.map Rec.d).length : Int)) = t.chain.length := by simp
     have hj : (if (f.kind == 2) = true then ou 0 [(.bool (decide ((t.chain.length : Int) < 8)))] else ou 0 [(.bool false)] : Outc) = some (0, [.bool false]) := by
      by_cases hk2 : f.kind = 2
      ·have : decide ((t.chain.length : Int) < 8) = false := decide_eq_false (by omega)
       refine out_if (by simp [hk2]) ?_
       rw [this]
      ·exact out_else (by simp [hk2]) rfl
     refine ⟨_, .inr ⟨_, ⟨hout, hfin (hst.stop hz (by rw [hf]; exact h3))⟩, rfl⟩, loopF_exit ?_, loopF_exit ?_⟩
     ·rw [e0, e1, e2, e4, ec, Int.toNat_natCast, gd_zn hz, w1]
      refine out_if (decide_eq_true (by omega)) (out_if (inb_nat hz) (out_call hLS (out_bind (r := (0, [])) ?_ (sel0 (out_bind (r := (0, [.bool false])) ?_ (sel0 (out_else (by simp) rfl)))))))
      ·rw [g0]; exact out_else (by simp [h3]) rfl
      ·rw [g0, hlen]; exact hj
     ·rw [e0, e1, e2, e4, ec, Int.toNat_natCast, gd_zn hz, w1]
      refine out_if (decide_eq_true (by omega)) (out_if (inb_nat hz) (out_call hLI (out_bind (r := (0, [])) ?_ (sel0 (out_bind (r := (0, [.bool false])) ?_ (sel0 (out_else (by simp) rfl)))))))
      ·rw [g0]; exact out_else (by simp [h3]) rfl
      ·rw [g0, hlen]; exact hj
theorem f_ResolveK {w : List Zn} {s : List UInt8} {k : Int} (hw : WIn lim w) (hs : s.length ≤ lim) : ∃ (t : Tld) (b : Bool), t.In ∧ (b = true → isName s = true ∧ typeB k = true ∧ k ≠ 6 ∧ wGood w = true ∧ Fin w s k t) ∧ (b = false → t = Tld.nul) ∧ e_impl_Resolve.F [wdD w, .str s, .int k] = some (.pair t.d (.pair (.bool b) .unit)) ∧ e_spec_Resolve.F [wdD w, .str s, .int k] = some (.pair t.d (.pair (.bool b) .unit)) := by
 rw [q_impl_Resolve, q_spec_Resolve]
 have f0 : ((wdD w).fld 0).l = w.map Zn.d := rfl
 simp only [f0, List.length_map]
 have hI := f_GoodWorld hw
 have hS := f_specGoodWorld hw
 have hN := f_GoodName s
 have hNS := f_specGoodName s hs
 have hT := f_isType k
 have hTS := f_l3Type k
 have hnul : Tld.nul.In := ⟨by simp [Tld.nul], by simp [Tld.nul]⟩
 cases hgw : wGood w with
 | false =>
   rw [hgw] at hI hS
   exact ⟨Tld.nul, false, hnul, by simp, fun _ => rfl, rn_bind0 (l := [.bool true]) (out_call hI (out_if rfl rfl)) (rn_if rfl rfl), rn_bind0 (l := [.bool true]) (out_call hS (out_if rfl rfl)) (rn_if rfl rfl)⟩
 | true =>
   rw [hgw] at hI hS
   cases hn : isName s with
   | false =>
     rw [hn] at hN hNS
     exact ⟨Tld.nul, false, hnul, by simp, fun _ => rfl, rn_bind0 (l := [.bool true]) (out_call hI (out_else (by simp) (out_call hN (out_if rfl rfl)))) (rn_if rfl rfl), rn_bind0 (l := [.bool true]) (out_call hS (out_else (by simp) (out_call hNS (out_if rfl rfl)))) (rn_if rfl rfl)⟩
   | true =>
     rw [hn] at hN hNS
     cases ht : typeB k with
     | false =>
       rw [ht] at hT hTS
       exact ⟨Tld.nul, false, hnul, by simp, fun _ => rfl, rn_bind0 (l := [.bool true]) (out_call hI (out_else (by simp) (out_call hN (out_else (by simp) (out_call hT (out_if rfl rfl)))))) (rn_if rfl rfl), rn_bind0 (l := [.bool true]) (out_call hS (out_else (by simp) (out_call hNS (out_else (by simp) (out_call hTS (out_if rfl rfl)))))) (rn_if rfl rfl)⟩
     | true =>
       rw [ht] at hT hTS
       by_cases h6 : k = 6
       ·exact ⟨Tld.nul, false, hnul, by simp, fun _ => rfl, rn_bind0 (l := [.bool true]) (out_call hI (out_else (by simp) (out_call hN (out_else (by simp) (out_call hT (out_else (by simp) (by simp [h6]))))))) (rn_if rfl rfl), rn_bind0 (l := [.bool true]) (out_call hS (out_else (by simp) (out_call hNS (out_else (by simp) (out_call hTS (out_else (by simp) (by simp [h6]))))))) (rn_if rfl rfl)⟩
       ·obtain ⟨r, hr, hlS, hlI⟩ := resolve_K hw (wGood_of hgw) (typeB_ne ht) (s0 := s) 24 Tld.nul 0 s rfl (by decide) hnul (wGood_of hgw).pos hs (St.first (wGood_of hgw) hn)
        rcases hr with rfl | ⟨t, ⟨hti, htf⟩, rfl⟩
        ·exact ⟨Tld.nul, false, hnul, by simp, fun _ => rfl, rn_bind0 (l := [.bool false]) (out_call hI (out_else (by simp) (out_call hN (out_else (by simp) (out_call hT (out_else (by simp) (by simp [h6]))))))) (rn_else (by simp) (rn_bind hlI rfl)), rn_bind0 (l := [.bool false]) (out_call hS (out_else (by simp) (out_call hNS (out_else (by simp) (out_call hTS (out_else (by simp) (by simp [h6]))))))) (rn_else (by simp) (rn_bind hlS rfl))⟩
        ·exact ⟨t, true, hti, fun _ => ⟨rfl, rfl, h6, rfl, htf⟩, by simp, rn_bind0 (l := [.bool false]) (out_call hI (out_else (by simp) (out_call hN (out_else (by simp) (out_call hT (out_else (by simp) (by simp [h6]))))))) (rn_else (by simp) (rn_bind hlI rfl)), rn_bind0 (l := [.bool false]) (out_call hS (out_else (by simp) (out_call hNS (out_else (by simp) (out_call hTS (out_else (by simp) (by simp [h6]))))))) (rn_else (by simp) (rn_bind hlS rfl))⟩
end Go.Proofs.YtfgfpdingddkcaaGreatDoor
namespace Go.Proofs.YtfgfpdingddkcaaGreatDoor
open Go Go.Own
theorem rec_beq2 (x : Rec) : D.beq x.d x.d = true := by simp [Rec.d, D.beq]
theorem f_sameRecs {xs : List Rec} (hl : xs.length ≤ lim) : e_laws_sameRecords.F [.lst (xs.map Rec.d), .lst (xs.map Rec.d)] = some (.bool true) := by
 rw [q_laws_sameRecords]
 have hsm := Nat.le_trans hl lim_smax
 refine rn_else (by simp) ?_
 refine rn_bind (r := (1, [])) (loop_for' (fun i (_ : Unit) => [.int (i : Int)]) xs.length (fun _ => ()) rfl ?_ (by exact out_else (by simp) rfl)) rfl
 intro i hi
 have e0 : (gd [D.int (i : Int)] 0).i.toNat = i := by simp
 have hg : gd (xs.map Rec.d) i = xs[i].d := gd_rec hi
 rw [e0, D.l_lst, hg, rec_beq2]
 refine out_if (by simpa using hi) (out_if (inb_nat (by simpa using hi)) (out_if (inb_nat (by simpa using hi)) (out_else (by simp) ?_)))
 show some (0, [D.int (IntKind.wrap .i64 ((i : Int) + 1))]) = _
 rw [wrap_succ hi hsm]
theorem f_sameTold {t : Tld} (ht : t.In) : e_laws_sameTold.F [t.d, t.d] = some (.bool true) := by
 rw [q_laws_sameTold]
 have g1 : t.d.fld 1 = .lst (t.recs.map Rec.d) := rfl
 have g2 : t.d.fld 2 = .lst (t.chain.map Rec.d) := rfl
 rw [g1, g2]
 exact rn_bind0 (l := [.bool true]) (out_if (by simp) (out_if (by simp) (out_if (by simp) (out_call (f_sameRecs ht.recs) (out_if rfl (out_call (f_sameRecs ht.chain) rfl)))))) rfl
theorem run_len {w : List Zn} {s : List UInt8} : ∀ {j k z : Nat} (hk : k < w.length) (hz : z < w.length), Run w s k j z → w[k].apex.length + j ≤ w[z].apex.length
 | 0, k, z, hk, hz, h => by
   have : k = z := h
   subst this; omega
 | j + 1, k, z, hk, hz, ⟨m, hn, hr⟩ => by
   obtain ⟨hm, _, h3, _⟩ := nextZ_some hk hn
   have := run_len hm hz hr
   omega
theorem reach_I {w : List Zn} {s : List UInt8} (hw : WIn lim w) (hg : WGood w) (hs : s.length ≤ lim) : ∀ (j k : Nat) (acc : List (List UInt8)) (hk : k < w.length) {z : Nat} (hz : z < w.length), Run w s k j z → nextZ w z s = none → Up s w[k].apex → acc.length + j ≤ 2 * lim → acc.getLast? = some w[k].apex →
 ∃ out : List (List UInt8), out.length = acc.length + j ∧ out.getLast? = some w[z].apex ∧
 loopF (fun l2 =>
  if (inb (gd l2 0).i w.length) then
  (e_impl_cutAbove.F [(gd (w.map Zn.d) (gd l2 0).i.toNat), .str s]).bind fun r4 =>
  (e_impl_World_find.F [wdD w, (r4.fld 0)]).bind fun r5 =>
  (if (!(r4.fld 1).b) then
      ou 0 [(.bool true)]
    else
     ou 0 [(.bool (!(r5.fld 1).b))]).bind fun o6 =>
  sel2 o6.1 (if (gd o6.2 0).b then
   ou 1 [(gd l2 1)]
   else
    if (appOk 16 (gd l2 1).l ((r4.fld 0) :: ([] : List D))) then
    ou 0 [(r5.fld 0), (D.lst ((gd l2 1).l ++ ((r4.fld 0) :: ([] : List D))))]
    else none) fun _ => none
  else none) [.int k, .lst (acc.map .str)] = some (0, [.lst (out.map .str)]) := by
 have hlim : lim = 1048576 := rfl
 intro j
 induction j with
 | zero =>
   intro k acc hk z hz hrun hn hup hal hne
   have : k = z := hrun
   subst this
   have hzz := hw.all _ (List.getElem_mem hk)
   have hcut := f_cutAbove hzz hs hup
   have g0 : gd [D.int (k : Int), D.lst (acc.map D.str)] 0 = .int k := rfl
   have g1 : gd [D.int (k : Int), D.lst (acc.map D.str)] 1 = .lst (acc.map .str) := rfl
   refine ⟨acc, rfl, hne, loopF_exit ?_⟩
   rw [g0, g1, D.i_int, Int.toNat_natCast, gd_zn hk]
   refine out_if (inb_nat hk) (out_call hcut ?_)
   unfold nextZ at hn
   rw [getD_lt hk] at hn
   cases hc : cutOf w[k].apex w[k].recs s with
   | none =>
     obtain ⟨n, hf, _⟩ := f_wfind hw hg (s := []) (by simp)
     refine out_call (r := .pair (.int n) (.pair (.bool (zAt [] w).isSome) .unit)) hf (out_bind (r := (0, [.bool true])) (out_if rfl rfl) (sel0 (out_if rfl rfl)))
   | some c =>
     rw [hc] at hn
     have hcl : c.length ≤ lim := by
      have := (cutOf_between hc).1.len
      rcases this with h1 | h1
      ·rw [← h1]; exact hs
      ·omega
     obtain ⟨n, hf, _⟩ := f_wfind hw hg hcl
     simp only at hn
     rw [hn] at hf
     refine out_call (r := .pair (.int n) (.pair (.bool false) .unit)) hf (out_bind (r := (0, [.bool true])) (out_else (by simp [cutDt, D.fld]) rfl) (sel0 (out_if rfl rfl)))
 | succ j ih =>
   intro k acc hk z hz hrun hnz hup hal hne
   obtain ⟨m, hn, hr⟩ := hrun
   have hzz := hw.all _ (List.getElem_mem hk)
   have hcut := f_cutAbove hzz hs hup
   have g0 : gd [D.int (k : Int), D.lst (acc.map D.str)] 0 = .int k := rfl
   have g1 : gd [D.int (k : Int), D.lst (acc.map D.str)] 1 = .lst (acc.map .str) := rfl
   obtain ⟨hm, hupj, hlt, hcj⟩ := nextZ_some hk hn
   have hjl : w[m].apex.length ≤ s.length := by
    rcases hupj.len with h1 | h1
    ·rw [← h1]; exact Nat.le_refl _
    ·omega
   obtain ⟨out, ho, hol, hI⟩ := ih m (acc ++ [w[m].apex]) hm hz hr hnz hupj (by simp; omega) (by simp)
   have hal2 : appOk 16 (acc.map D.str) [.str w[m].apex] = true := by
    simp [appOk, smax_eq]; omega
   refine ⟨out, by rw [ho]; simp; omega, hol, ?_⟩
   rw [← hI]
   refine loopF_step ?_
   rw [g0, g1, D.i_int, Int.toNat_natCast, gd_zn hk]
   rw [hcj] at hcut
   obtain ⟨n, hf, hnk⟩ := f_wfind hw hg (s := w[m].apex) (by omega)
   have hzj : zAt w[m].apex w = some m := by
    have h2 := hn
    unfold nextZ at h2
    rw [getD_lt hk, hcj] at h2
    exact h2
   rw [hzj] at hf
   have := hnk m hzj
   subst this
   refine out_if (inb_nat hk) (out_call hcut (out_call (r := .pair (.int (m : Int)) (.pair (.bool true) .unit)) hf (out_bind (r := (0, [.bool false])) (out_else (by simp [cutDt, D.fld]) rfl) (sel0 (out_else (by simp) (out_if hal2 ?_))))))
   show some (0, [D.int (m : Int), D.lst (acc.map D.str ++ [.str w[m].apex])]) = _
   simp
theorem f_reached {w : List Zn} {s : List UInt8} (hw : WIn lim w) (hgb : wGood w = true) (hn : isName s = true) (hs : s.length ≤ lim) {j z : Nat} (hz : z < w.length) (hr : Run w s 0 j z) (hx : nextZ w z s = none) : ∃ out : List (List UInt8), out.length = j + 1 ∧ out.getLast? = some w[z].apex ∧ j ≤ lim ∧ e_impl_ReachedBy.F [wdD w, .str s] = some (.pair (.lst (out.map .str)) (.pair (.bool true) .unit)) := by
 have hg := wGood_of hgb
 have hlim : lim = 1048576 := rfl
 have hj := run_len hg.pos hz hr
 have hza := (hw.all _ (List.getElem_mem hz)).apex
 have hra := (root_apex hg).2
 obtain ⟨out, ho, hol, hl⟩ := reach_I hw hg hs j 0 [[]] hg.pos hz hr hx (by rw [hra]; exact up_nil _ _ (Nat.le_refl _)) (by simp; omega) (by rw [hra]; rfl)
 refine ⟨out, by rw [ho]; simp; omega, hol, by omega, ?_⟩
 have hri : e_impl_reachedBy.F [wdD w, .str s] = some (.lst (out.map .str)) := by
  rw [q_impl_reachedBy]
  have f0 : ((wdD w).fld 0).l = w.map Zn.d := rfl
  simp only [f0, List.length_map]
  exact rn_bind hl rfl
 have hI := f_GoodWorld hw
 have hN := f_GoodName s
 rw [hgb] at hI; rw [hn] at hN
 rw [q_impl_ReachedBy]
 exact rn_bind0 (l := [.bool false]) (out_call hI (out_else (by simp) (out_call hN rfl))) (rn_else (by simp) (rn_call hri rfl))
theorem f_asked {w : List Zn} {s : List UInt8} {k : Int} (hw : WIn lim w) (hgb : wGood w = true) (hn : isName s = true) (hs : s.length ≤ lim) (hk : typeB k = true) (h6 : k ≠ 6) {z : Nat} (hz : z < w.length) (hza : zAt w[z].apex w = some z) : e_impl_AskFrom.F [wdD w, .str w[z].apex, .str s, .int k] = some (.pair (lookF w[z] s k).d (.pair (.bool true) .unit)) := by
 have hg := wGood_of hgb
 have hzz := hw.all _ (List.getElem_mem hz)
 have hzg := Zn.good_iff.1 (hg.good _ (List.getElem_mem hz))
 have hI := f_GoodWorld hw
 have hN := f_GoodName w[z].apex
 have hna : isName w[z].apex = true := by
  have := hzg.apx
  unfold isApx at this
  simp only [Bool.and_eq_true] at this
  exact this.1
 rw [hgb] at hI; rw [hna] at hN
 obtain ⟨n, hf, hnk⟩ := f_wfind hw hg (s := w[z].apex) hzz.apex
 rw [hza] at hf
 have := hnk z hza
 subst this
 have hA := f_isAsked (name := s) (k := k) hzz
 have hask : askB w[z] s k = true := by
  unfold askB
  rw [hg.good _ (List.getElem_mem hz), hn, hk]
  simp [h6]
 rw [hask] at hA
 have hL : e_impl_LookUp.F [w[z].d, .str s, .int k] = some (.pair (lookF w[z] s k).d (.pair (.bool true) .unit)) := by
  rw [q_impl_LookUp]
  exact rn_call hA (rn_else (by simp) (rn_call (f_lookUp hzz hzg hs) rfl))
 have f0 : ((wdD w).fld 0).l = w.map Zn.d := rfl
 rw [q_impl_AskFrom]
 refine rn_bind0 (l := [.bool false]) (out_call hI (out_else (by simp) (out_call hN rfl))) (rn_else (by simp) (rn_call (r := .pair (.int (z : Int)) (.pair (.bool true) .unit)) hf (rn_else (by simp [D.fld]) ?_)))
 rw [f0]
 have e1 : ((D.pair (.int (z : Int)) (.pair (.bool true) .unit)).fld 0).i = (z : Int) := rfl
 rw [e1, Int.toNat_natCast, gd_zn hz]
 exact rn_if (inb_nat (by simpa using hz)) (rn_call hL rfl)
theorem law_FnResolved {a : D} (ha : Sm smax (.lst false (.int .u8)) a) : e_laws_FnResolved.F [a] = some (.bool true) := by
 obtain ⟨bs, rfl, hb⟩ := bytes_ofD ha
 have hlim : lim = 1048576 := rfl
 have hsm : smax = 9223372036854775807 := smax_eq
 rw [q_laws_FnResolved]
 by_cases hl : (((D.lst bs).l.length : Nat) : Int) > 1048576
 ·exact rn_if (decide_eq_true hl) rfl
 refine rn_else (fun h => hl (of_decide_eq_true h)) ?_
 obtain ⟨w, s, k, h1, hws, hs⟩ := d_drawResolve hb
 have hw : WIn lim w := hws.lim (by omega)
 obtain ⟨t, b, hti, htt, htf, hI, hS⟩ := f_ResolveK (k := k) hw (s := s) (by omega)
 have g0 : (D.pair (wdD w) (.pair (.str s) (.pair (.int k) .unit))).fld 0 = wdD w := rfl
 have g1 : (D.pair (wdD w) (.pair (.str s) (.pair (.int k) .unit))).fld 1 = .str s := rfl
 have g2 : (D.pair (wdD w) (.pair (.str s) (.pair (.int k) .unit))).fld 2 = .int k := rfl
 have r0 : (D.pair t.d (.pair (.bool b) .unit)).fld 0 = t.d := rfl
 have r1 : ((D.pair t.d (.pair (.bool b) .unit)).fld 1).b = b := rfl
 have t0 : t.d.fld 0 = .int t.kind := rfl
 have t1 : t.d.fld 1 = .lst (t.recs.map Rec.d) := rfl
 have t2 : (t.d.fld 2).l = t.chain.map Rec.d := rfl
 have t3 : (t.d.fld 3).s = t.zone := rfl
 have t4 : (t.d.fld 4).i = t.asks := rfl
 refine rn_call h1 ?_
 rw [g0, g1, g2]
 refine rn_call hI (rn_call hS ?_)
 rw [r0, r1]
 refine rn_bind0 (l := [.bool false]) (out_else (by simp) (out_call (f_sameTold hti) (out_else (by simp) (out_call (f_GoodWorld hw) (out_call (f_specGoodWorld hw) (by simp)))))) (rn_else (by simp) ?_)
 cases b with
 | false =>
   refine rn_if rfl ?_
   rw [htf rfl]; rfl
 | true =>
   obtain ⟨hn, hk, h6, hgb, ⟨⟨name, z, hz, hnn, hlk, h8, ⟨j, hrun, hj⟩, hza, hup, hnx, hzo, hki, hre⟩⟩⟩ := htt rfl
   have hnl : name.length ≤ lim := by
    unfold isName at hnn
    simp only [Bool.and_eq_true, decide_eq_true_eq] at hnn
    omega
   refine rn_else (by simp) ?_
   simp only [t2, t3, t4, t0, t1, List.length_map]
   have hloop : ∃ r, loopF (fun l5 =>
    if (decide ((gd l5 1).i < (t.chain.length : Int))) then
     if (inb (gd l5 1).i t.chain.length) then
     (if (!(((gd (t.chain.map Rec.d) (gd l5 1).i.toNat).fld 0).s == (gd l5 0).s)) then
         ou 0 [(.bool true)]
       else
        ou 0 [(.bool (((gd (t.chain.map Rec.d) (gd l5 1).i.toNat).fld 1).i != 5))]).bind fun o7 =>
     sel2 o7.1 (if (gd o7.2 0).b then
      ou 1 [(.bool false)]
      else
       ou 0 [((gd (t.chain.map Rec.d) (gd l5 1).i.toNat).fld 3), (.int (IntKind.wrap .i64 ((gd l5 1).i + 1)))]) fun _ => none
     else none
    else
     ou 2 [(gd l5 0)]) [.str s, .int 0] = some r ∧ r = (1, [.str name]) := by
    refine ok_up t.chain.length (fun i l => ∃ q : List UInt8, l = [.str q, .int (i : Int)] ∧ Links q (t.chain.drop i) name) ⟨s, rfl, hlk⟩ ?_ ?_
    ·rintro i _ hi ⟨q, rfl, hq⟩
     rw [List.drop_eq_getElem_cons hi] at hq
     obtain ⟨q1, q2, q3⟩ := hq
     have e0 : (gd [D.str q, D.int (i : Int)] 1).i.toNat = i := by simp [gd]
     have hg : gd (t.chain.map Rec.d) i = t.chain[i].d := gd_rec hi
     rw [e0, hg]
     have d0 : (t.chain[i].d.fld 0).s = t.chain[i].name := rfl
     have d1 : (t.chain[i].d.fld 1).i = t.chain[i].type := rfl
     rw [d0, d1, q1, q2]
     refine ok_ifT (decide_eq_true (by simpa [gd] using hi)) (ok_ifT (inb_nat hi) (ok_bind (P := fun r => r = (0, [.bool false])) (ok_if (fun h => ?_) (fun _ => ok_ou rfl)) ?_))
     ·have h' : (!(q == q)) = true := h
      simp at h'
     ·rintro _ rfl
      refine ok_sel0 (ok_if (fun h => by cases h) (fun _ => ok_ou (.inl ⟨rfl, t.chain[i].data, ?_, q3⟩)))
      show [D.str t.chain[i].data, D.int (IntKind.wrap .i64 ((i : Int) + 1))] = _
      rw [wrap1 (by omega)]
    ·rintro _ ⟨q, rfl, hq⟩
     refine ok_if (fun h => ?_) (fun h => ok_ou ⟨1, rfl, ?_⟩)
     ·have h2 : ((t.chain.length : Nat) : Int) < ((t.chain.length : Nat) : Int) := of_decide_eq_true h
      omega
     ·rw [List.drop_length] at hq
      have : q = name := hq
      subst this; rfl
   obtain ⟨_, hloop, rfl⟩ := hloop
   obtain ⟨out, ho, hol, hjl, hR⟩ := f_reached hw hgb hnn hnl hz hrun hnx
   have hA := f_asked hw hgb hnn hnl hk h6 hz hza
   refine rn_bind hloop ?_
   show rn (Option.bind (e_impl_ReachedBy.F [wdD w, .str name]) _) = _
   refine rn_call hR ?_
   have lo : ((D.pair (.lst (out.map D.str)) (.pair (.bool true) .unit)).fld 0).l = out.map D.str := rfl
   have hw1 : IntKind.wrap .i64 (((out.map D.str).length : Int) - 1) = ((out.length - 1 : Nat) : Int) := by
    rw [List.length_map, wrap_id] <;> omega
   have hw2 : IntKind.wrap .i64 (((out.map D.str).length : Int) + (t.chain.length : Int)) = ((out.length + t.chain.length : Nat) : Int) := by
    rw [List.length_map, wrap_id] <;> omega
   have hlast : gd (out.map D.str) (out.length - 1) = .str w[z].apex := by
    rw [gd_map (show out.length - 1 < out.length by omega)]
    have : out.getLast? = out[out.length - 1]? := List.getLast?_eq_getElem?
    rw [hol] at this
    rw [List.getElem?_eq_getElem (show out.length - 1 < out.length by omega)] at this
    exact congrArg D.str (Option.some.inj this).symm
   rw [lo]
   refine rn_bind0 (l := [.bool false]) (out_else (by simp [D.fld]) (out_else (by simp; intro hz; rw [hz] at ho; simp at ho) (out_if ?_ (out_else ?_ (out_else ?_ ?_))))) (rn_else (by simp) ?_)
   ·rw [hw1]; exact inb_nat (by simp; omega)
   ·rw [hw1, Int.toNat_natCast, hlast, hzo]; simp
   ·intro h
    have h2 : ((t.chain.length : Nat) : Int) > 8 := of_decide_eq_true h
    omega
   ·rw [hw2]
    have h3 : ((out.length + t.chain.length : Nat) : Int) ≤ t.asks := by
     rw [ho, show j + 1 + t.chain.length = t.chain.length + j + 1 by omega]; exact hj
    have : decide (t.asks < ((out.length + t.chain.length : Nat) : Int)) = false := decide_eq_false (by omega)
    rw [this]
   ·have ez : t.d.fld 3 = .str w[z].apex := by rw [← hzo]; rfl
    rw [ez]
    show rn (Option.bind (e_impl_AskFrom.F [wdD w, .str w[z].apex, .str name, .int k]) _) = _
    refine rn_call hA ?_
    have a0 : (((D.pair (lookF w[z] name k).d (.pair (.bool true) .unit)).fld 0).fld 0).i = (lookF w[z] name k).kind := rfl
    have a2 : ((D.pair (lookF w[z] name k).d (.pair (.bool true) .unit)).fld 0).fld 2 = .lst ((lookF w[z] name k).recs.map Rec.d) := rfl
    rw [a0, a2, hre]
    have hrl : (lookF w[z] name k).recs.length ≤ lim := by rw [← hre]; exact hti.recs
    exact rn_bind0 (l := [.bool true]) (out_if rfl (out_if (by simp [hki]) (out_call (f_sameRecs hrl) rfl))) rfl
end Go.Proofs.YtfgfpdingddkcaaGreatDoor
