import Derived.Test.YtobmoajkfbigkaaGreatJs
import Derived.Test.YtobmoajkfbigkaaGreatJg
import Derived.Test.YtobmoajkfbigkaaGreatJm
import Derived.Test.YtobmoajkfbigkaaGreatJj
set_option linter.unusedSimpArgs false
set_option linter.unusedVariables false
set_option maxRecDepth 100000
set_option maxHeartbeats 4000000
set_option linter.defProp false
namespace Go.AL
open Go.Proofs
noncomputable def k51 : Code := Tryz.f51.body.getD .skip
noncomputable def p510 : Code := sL k51
noncomputable def p511 : Code := sL (sR k51)
noncomputable def p512 : Code := sL (sR (sR k51))
noncomputable def p513 : Code := sL (sR (sR (sR k51)))
noncomputable def ops511 : Array Oper := opsC p511
noncomputable def ops512 : Array Oper := opsC p512
theorem body51 : Tryz.f51.body = some (chainC [p510] (.seq p511 (.seq p512 (chainC [p513] .ret)))) := by kernel_rfl
theorem p510_is : chainA [p510] = acL c51 := by kernel_rfl
theorem p511_is : p511 = .region 1 ops511 false := by kernel_rfl
theorem p512_is : p512 = .region 2 ops512 false := by kernel_rfl
theorem p513_is : chainA [p513] = acL (acR (acR (acR c51))) := by kernel_rfl
noncomputable def oMk : Oper := (ops511[0]?).getD default
noncomputable def oDf : Oper := (ops511[1]?).getD default
noncomputable def oMv : Oper := (ops512[0]?).getD default
noncomputable def oCl : Oper := (ops512[1]?).getD default
theorem ops511_is : ops511.toList = [oMk] ++ [oDf] := by kernel_rfl
theorem ops512_is : ops512.toList = [oMv] ++ [oCl] := by kernel_rfl
theorem oMk_pl : [oMk].map (plainO ops511.toList) = [oO 4 (.makeFunc (.func 92) #[] #[tT 2, tT 3])] := by kernel_rfl
theorem oMv_pl : [oMv].map (plainO ops512.toList) = [oO 5 (.move (tT 0))] := by kernel_rfl
theorem oDf_op : oDf.op = .defer { callee := .value (.tmp 4), args := #[], argTypes := #[] } := by kernel_rfl
theorem oDf_dst : oDf.dst = none := by kernel_rfl
theorem oDf_g : oDf.guard = none := by kernel_rfl
theorem oCl_op : oCl.op = .call { callee := .value (.tmp 5), args := #[], argTypes := #[] } := by kernel_rfl
theorem oCl_dst : oCl.dst = some 6 := by kernel_rfl
theorem oCl_g : oCl.guard = none := by kernel_rfl
theorem rs51 : Tryz.f51.results.toList = [.cell 2 3, .cell 3 32] := by kernel_rfl
theorem res51 {T : Env} {σ : St} {b2 b3 : Nat} {x y : Int} (t2 : T 2 = .ptr b2 0) (t3 : T 3 = .ptr b3 0) (h2 : σ.box b2 = some [.int .i64 x]) (h3 : σ.box b3 = some [.int .i64 y]) : resA Tryz.prog T σ Tryz.f51.results.toList = some (.tup [.int .i64 x, .int .i64 y]) := by
  rw [rs51]
  simp -implicitDefEqProofs only [go_sem, t2, t3, h2, h3, resM_cell]
def dfr51 (b2 b3 : Nat) : Deferred := { target := .fn (.func 92) #[.pointer (some ⟨b2, 0, none⟩), .pointer (some ⟨b3, 0, none⟩)], args := #[] }
theorem leave51 {M M₀ : MMap} {σ σ₀ s1 : St} {w w₀ : World} {T : Env} {a : Act} {b2 b3 : Nat} {x y : Int} {u u' : FrameMode} (ok : Bool) (a' : Int) (w' : Nat) {RR : D → St → Prop} (hd₀ : ∀ b, M₀ b ≠ none → b < w₀.heap.size) [DSt]
    (hi : AInv 7 M T σ a w) (hk : KeepF M₀ σ₀ w₀ M σ w) (hd : a.defers = [dfr51 b2 b3]) (t2 : T 2 = .ptr b2 0) (t3 : T 3 = .ptr b3 0) (hσ : σ = (s1.set b2 [.int .i64 x]).set b3 [.int .i64 y]) (hne : b2 ≠ b3) (hs2 : ¬ s1.has b2) (hs3 : ¬ s1.has b3)
    (hu : (u = .returning ∧ u' = .returning ∧ ok = false) ∨ (ok = true ∧ ∃ v, Rep M w (refD a' w') v ∧ u = .panicking [{ v, recovered := false }] ∧ u' = .panicking [{ v, recovered := true }]))
    (hR : RR (.tup [.int .i64 (if ok = true then a' else x), .int .i64 (if ok = true then (w' : Int) else y)]) s1) :
    Leaves Tryz.prog Tryz.f51 a.tmps (fun e w' => ∃ M' s' z, RepE M' w' z e ∧ Inv M' s' w' ∧ KeepF M₀ σ₀ w₀ M' s' w' ∧ ∃ d, z = .ret d ∧ RR d s') a.defers u w := by
  have h2 : σ.box b2 = some [.int .i64 x] := by rw [hσ, St.set_box, if_neg hne, St.set_box, if_pos rfl]
  have h3 : σ.box b3 = some [.int .i64 y] := by rw [hσ, St.set_box, if_pos rfl]
  have hur : u ≠ .run := by rcases hu with ⟨rfl, _⟩ | ⟨_, v, _, rfl, _⟩ <;> simp
  have hset : settle u' = .returning := by rcases hu with ⟨_, rfl, _⟩ | ⟨_, v, _, _, rfl⟩ <;> rfl
  rw [hd]
  refine leaves_cons hur (f := 92) (args := #[.pointer (some ⟨b2, 0, none⟩), .pointer (some ⟨b3, 0, none⟩)]) ?_ ?_
  · exact callFunc_run ⟨Tryz.f92, Tryz.func92, rfl, rfl⟩ _ _
  refine (deferred92 u u' ok a' w' hu hi.inv h2 h3 hne).mono ?_
  rintro e u₁ w₁ ⟨rfl, rfl, M₁, hi1, hk1⟩
  show Leaves Tryz.prog Tryz.f51 a.tmps _ [] (settle u₁) w₁
  rw [hset]
  obtain ⟨σf, hσf⟩ : ∃ σf, (if ok = true then (σ.set b2 [.int .i64 a']).set b3 [.int .i64 w'] else σ) = σf := ⟨_, rfl⟩
  rw [hσf] at hi1 hk1
  have hai : AInv 7 M₁ T σf a w₁ := hi.keep hk1.toKeep hi1
  have f2 : σf.box b2 = some [.int .i64 (if ok = true then a' else x)] := by
    rw [← hσf]; cases ok
    · simp [h2]
    · simp [St.set_box, hne]
  have f3 : σf.box b3 = some [.int .i64 (if ok = true then (w' : Int) else y)] := by
    rw [← hσf]; cases ok
    · simp [h3]
    · simp [St.set_box]
  have hle : St.le s1 σf := by
    have hb : St.le s1 σ := by rw [hσ]; exact le_off (le_off (St.le.refl _) hs2) hs3
    rw [← hσf]; cases ok
    · exact hb
    · exact le_off (le_off hb hs2) hs3
  obtain ⟨v, hv, hrep⟩ := resA_sound (res51 t2 t3 f2 f3) hai
  exact ⟨v, hv, M₁, s1, .ret _, ⟨v, rfl, hrep⟩, hi1.less hle, (hk.trans hd₀ hk1).less hle, _, rfl, hR⟩
theorem caught51 {g : FuncId} {ca : List D} {s : St} {R Rp : D → St → Prop} (h : XCall Tryz.prog g ca s R Rp) (hp : ∀ d s', Rp d s' → ∃ a w, d = refD a w) :
    RCall Tryz.prog 51 [.func (.func g) [] ca] s fun d s' => (∃ d0, R d0 s' ∧ d = .tup [.int .i64 0, .int .i64 0]) ∨ ∃ a w, Rp (refD a w) s' ∧ d = .tup [.int .i64 a, .int .i64 (w : Nat)] := by
  refine ⟨⟨Tryz.f51, Tryz.func51, rfl, rfl⟩, fun M w vs hi hv => ?_⟩
  refine calls_of_wp_defers Tryz.func51 body51 ?_
  obtain ⟨tms, htms⟩ : ∃ tms, (vs.toArray ++ Array.replicate (Tryz.f51.ntmps - vs.toArray.size) undef : Array Value) = tms := ⟨_, rfl⟩
  have hlen : vs.length = 1 := by have := hv.length; simpa using this.symm
  have hsz : tms.size = 7 := by rw [← htms, Tryz.ntmps51]; simp [hlen]
  have hi0 : AInv 7 M (envOf [.func (.func g) [] ca]) s { tmps := tms, defers := [] } w := ⟨hi, hsz, rfl, fun t => by rw [← htms]; exact envOf_rep hv _ t⟩
  have dom := hi.dom
  rw [htms]
  refine wp_chain (M₀ := M) (σ₀ := s) (w₀ := w) (Qx := fun x T' σ' => x = .normal ∧ ∃ b2 b3, ¬ s.has b2 ∧ ¬ s.has b3 ∧ b2 ≠ b3 ∧ σ' = (s.set b2 [.int .i64 0]).set b3 [.int .i64 0] ∧ T' 0 = .func (.func g) [] ca ∧ T' 2 = .ptr b2 0 ∧ T' 3 = .ptr b3 0) Tryz.follows_mixed (by decide) dom ?hy ?hx [p510] ?hv hi0 (KeepF.refl _ _ _)
  case hx =>
    rintro e a1 w1 hne ⟨M1, T1, s1, x, hx, _, _, rfl, _⟩
    exact absurd hx hne
  case hv =>
    rw [p510_is]
    have e0 : envOf [.func (.func g) [] ca] 0 = .func (.func g) [] ca := rfl
    simp -implicitDefEqProofs only [go_sem, c51, acL, e0]
    intro b2 h2 b3 m1 m2 h3
    exact ⟨b2, b3, h2, h3, m2, rfl, rfl, rfl⟩
  rintro a1 w1 ⟨M1, T1, s1, x, hx, hi1, hk1, -, -, b2, b3, hb2, hb3, hne, rfl, t0, t2, t3⟩
  refine wp_seq ?_
  rw [p511_is]
  refine wp_region_list ?_
  rw [ops511_is]
  refine list_cut (Q := Post 7 M s w fun y T' s' => y = .normal ∧ s' = (s.set b2 [.int .i64 0]).set b3 [.int .i64 0] ∧ T' 0 = .func (.func g) [] ca ∧ T' 2 = .ptr b2 0 ∧ T' 3 = .ptr b3 0 ∧ T' 4 = .func (.func 92) [] [.ptr b2 0, .ptr b3 0]) noOut ?_ ?_ _ a1 w1 ?_
  · rintro e a2 w2 hne' ⟨M2, T2, s2, y, hy, _, _, rfl, _⟩
    exact absurd hy hne'
  rotate_left
  · refine aopsD_plain (M := M1) (by decide) [oMk] ?_ hi1 dom hk1
    rw [oMk_pl]
    simp -implicitDefEqProofs only [go_sem, t0, t2, t3]
  rintro a2 w2 ⟨M2, T2, s2, y, hy, hi2, hk2, -, rfl, u0, u2, u3, u4⟩
  have hf4 : a2.eval (.tmp 4) = .func (.func 92) #[] #[.pointer (some ⟨b2, 0, none⟩), .pointer (some ⟨b3, 0, none⟩)] := by
    have := hi2.env 4
    rw [u4] at this
    obtain ⟨vf, vc, e1, e2, e3⟩ := this
    have e4 : vf = #[] := by simpa [RepAll] using e2
    obtain ⟨v, vs', e5, e6, v2, vs2, e7, e8, e9⟩ := e3
    obtain rfl := e6
    obtain rfl := e8
    obtain rfl := e9
    subst e7
    have e10 : vc = #[.pointer (some ⟨b2, 0, none⟩), .pointer (some ⟨b3, 0, none⟩)] := by rw [← Array.toList_inj]; exact e5
    rw [e4, e10] at e1; exact e1
  have hrun : (execOp a2.eval oDf).run Tryz.prog w2 = .ok (.defer (dfr51 b2 b3)) w2 := by
    simp [execOp, oDf_op, resolve, hf4, Deferred.ofValue, dfr51]
  refine list_defer oDf_g hrun ?_
  rw [oDf_dst]
  have hz2 := hi2.size
  have hf2 : a2.defers = [] := hi2.defers
  have hinv2 := hi2.inv
  have henv2 := hi2.env
  clear hi1 hi0
  letI : DSt := ⟨[dfr51 b2 b3]⟩
  have hi3 : AInv 7 M2 T2 ((s.set b2 [.int .i64 0]).set b3 [.int .i64 0]) { a2 with defers := dfr51 b2 b3 :: a2.defers } w2 := ⟨hinv2, hz2, by rw [hf2]; rfl, henv2⟩
  show (Code.seq p512 _).wp Tryz.prog _ { a2 with defers := dfr51 b2 b3 :: a2.defers } w2
  refine wp_seq ?_
  rw [p512_is]
  refine wp_region_list ?_
  rw [ops512_is]
  refine list_cut (Q := Post 7 M s w fun y T' s' => y = .normal ∧ s' = (s.set b2 [.int .i64 0]).set b3 [.int .i64 0] ∧ T' 2 = .ptr b2 0 ∧ T' 3 = .ptr b3 0 ∧ T' 5 = .func (.func g) [] ca) noOut ?_ ?_ _ _ w2 ?_
  · rintro e a3 w3 hne' ⟨M3, T3, s3, y, hy, _, _, rfl, _⟩
    exact absurd hy hne'
  rotate_left
  · refine aopsD_plain (M := M2) (by decide) [oMv] ?_ hi3 dom hk2
    rw [oMv_pl]
    simp -implicitDefEqProofs only [go_sem, u0, u2, u3, u4]
  rintro a3 w3 ⟨M3, T3, s3, y, hy, hi4, hk4, -, rfl, v2, v3, v5⟩
  obtain ⟨L, hL⟩ : ∃ L : List LI, [.bx b2 [.int .i64 0], .bx b3 [.int .i64 0]] = L := ⟨_, rfl⟩
  have hput : ∀ s' : St, (s'.set b2 [.int .i64 0]).set b3 [.int .i64 0] = putL s' L := fun s' => by rw [← hL]; rfl
  have hoff : offL s L := by rw [← hL]; exact ⟨hb2, hb3, trivial⟩
  have hj := putL_join (l := L) (apart_nil s) hoff
  rw [show St.join s {} = s by simp [St.join]] at hj
  have hf5 : ∃ vc : Array Value, a3.eval (.tmp 5) = .func (.func g) #[] vc ∧ RepAll M3 w3 ca vc.toList := by
    have := hi4.env 5
    rw [v5] at this
    obtain ⟨vf, vc, e1, e2, e3⟩ := this
    have e4 : vf = #[] := by simpa [RepAll] using e2
    exact ⟨vc, by rw [e4] at e1; exact e1, e3⟩
  obtain ⟨vc, hf5, hrc⟩ := hf5
  have hback : ∀ s1, St.apart s1 (putL {} L) → offL s1 L ∧ St.join s1 (putL {} L) = putL s1 L := fun s1 hap => by
    have ho : offL s1 L := off_of hap fun x hx => absurd hx (St.not_has_nil x)
    have h1 := (putL_join (l := L) (apart_nil s1) ho).1
    rw [show St.join s1 {} = s1 by simp [St.join]] at h1
    exact ⟨ho, h1.symm⟩
  refine list_call oCl_g (call_keep (vs := vc) ⟨(hput s).trans hj.1, hj.2⟩ h hi4 hrc (fun hen => ?_) ?_ ?_)
  · simp only [execOp, oCl_op, resolve, hf5, Deferred.ofValue, invoke]
    simpa using callFunc_run hen vc w3
  · intro d v s1 M4 w4 hRd hap hrep hi5 hk5
    obtain ⟨ho, hjn⟩ := hback s1 hap
    rw [hjn] at hi5 hk5
    rw [oCl_dst]
    have hi6 : AInv 7 M4 (upd T3 6 d) (putL s1 L) (a3.put (some 6) v) w4 := hi5.put (dst := some 6) (fun t ht => by cases ht; decide) hrep
    show (chainC [p513] .ret).wp Tryz.prog _ (a3.put (some 6) v) w4
    have hk6 := hk4.trans dom hk5
    have hs2 : ¬ s1.has b2 := by rw [← hL] at ho; exact ho.1
    have hs3 : ¬ s1.has b3 := by rw [← hL] at ho; exact ho.2.1
    refine wp_chain (M₀ := M) (σ₀ := s) (w₀ := w) (Qx := fun x T' σ' => x = .normal ∧ σ' = (s1.set b2 [.int .i64 0]).set b3 [.int .i64 0] ∧ T' 2 = .ptr b2 0 ∧ T' 3 = .ptr b3 0) Tryz.follows_mixed (by decide) dom ?hy2 ?hx2 [p513] ?hv2 hi6 hk6
    case hx2 =>
      rintro e a7 w7 hne' ⟨M7, T7, s7, x, hx, _, _, rfl, _⟩
      exact absurd hx hne'
    case hv2 =>
      rw [p513_is, ← hput]
      simp -implicitDefEqProofs only [go_sem, c51, acL, acR, v2, v3, hne, Ne.symm hne, set_set]
      rw [set_comm (Ne.symm hne), set_set, set_set]
    rintro a7 w7 ⟨M7, T7, s7, x, hx, hi7, hk7, -, -, rfl, x2, x3⟩
    refine wp_ret ?_
    refine leave51 (s1 := s1) (u' := .returning) (a' := 0) (w' := 0) false dom hi7 hk7 hi7.defers x2 x3 rfl hne hs2 hs3 (.inl ⟨rfl, rfl, rfl⟩) ?_
    exact .inl ⟨d, hRd, rfl⟩
  · intro d v s1 M4 w4 hRd hap hrep hi5 hk5
    obtain ⟨ho, hjn⟩ := hback s1 hap
    rw [hjn] at hi5 hk5
    have hs2 : ¬ s1.has b2 := by rw [← hL] at ho; exact ho.1
    have hs3 : ¬ s1.has b3 := by rw [← hL] at ho; exact ho.2.1
    obtain ⟨a', w', rfl⟩ := hp d s1 hRd
    show Leaves Tryz.prog Tryz.f51 a3.tmps _ a3.defers _ w4
    refine leave51 (s1 := s1) (u' := .panicking [{ v, recovered := true }]) (a' := a') (w' := w') true dom hi5 (hk4.trans dom hk5) hi5.defers v2 v3 (by rw [hput]) hne hs2 hs3 (.inr ⟨rfl, v, hrep, rfl, rfl⟩) ?_
    exact .inr ⟨a', w', hRd, rfl⟩
theorem fetch54 (b : List Ty) (o : Own) (b6 : Nat) : FetchOk 54 [.ptr b6 0] b fun _ sf => sf = ({} : St).set b6 [.slice o (rws eT b)] := ⟨fun asked a sf hs ha => by
  subst hs
  have p1 : ((a : Int) < b.length) = True := eq_true (by omega)
  have p0 : (0 ≤ (a : Int)) = True := eq_true (by omega)
  have hat := bt_at (b := b) (i := a) ha
  refine F54.xcall rfl fun T hT => ?_
  simp -implicitDefEqProofs only [go_sem, c54, hT, eT_len, p1, p0, hat]
  exact ⟨_, _, DLe.refl _, St.le.refl _, rfl, rfl⟩⟩
theorem e_gh {e : En} {n : Nat} {l : List Ey} {nx : Nat} {fd : D} {s : PS} {o : Option Nat} : ((eP e n l nx fd s o).drop 7).take 2 = [grD 1 o (rws eN s.fet), .int .i64 s.cmp] := rfl
def st52 (e : En) (n : Int) (b c : List Ty) (o o2 : Own) (b4 b5 b6 b7 b11 : Nat) : St :=
  (((((({} : St).set b6 [.slice o (rws eT b)]).set b4 (eEn e)).set b5 [.int .i64 n]).set b7 [.slice o2 (rws eT c)]).set b11 [.slice .nil [], .int .i64 0])
def R52 (e : En) (n : Int) (b c : List Ty) (b11 : Nat) (d : D) (s' : St) : Prop := ∃ fet cmp o, checkD e n b c = ((cmp, fet), 0, 0) ∧ s' = ({} : St).set b11 [grD 1 o (rws eN fet), .int .i64 cmp]
def P52 (e : En) (n : Int) (b c : List Ty) (b11 : Nat) (d : D) (s' : St) : Prop := ∃ a w, checkD e n b c = ((0, []), a, w) ∧ d = refD a w ∧ s' = ({} : St).set b11 [.slice .nil [], .int .i64 0]
theorem check52 (e : En) (n : Int) (b c : List Ty) (o o2 : Own) (b4 b5 b6 b7 b11 : Nat) (hw : WideE e) (hb : b.length ≤ 140737488355328) (hc : c.length ≤ 140737488355328)
    (h1 : b5 ≠ b4) (h2 : b6 ≠ b4) (h3 : b6 ≠ b5) (h4 : b7 ≠ b4) (h5 : b7 ≠ b5) (h6 : b7 ≠ b6) (h7 : b11 ≠ b4) (h8 : b11 ≠ b5) (h9 : b11 ≠ b6) (h10 : b11 ≠ b7) :
    XCall Tryz.prog 52 [.ptr b4 0, .ptr b5 0, .ptr b6 0, .ptr b7 0, .ptr b11 0] (st52 e n b c o o2 b4 b5 b6 b7 b11) (R52 e n b c b11) (P52 e n b c b11) := by
  obtain ⟨S0, hS0⟩ : ∃ S0, st52 e n b c o o2 b4 b5 b6 b7 b11 = S0 := ⟨_, rfl⟩
  have k4 : S0.box b4 = some (eEn e) := by rw [← hS0]; simp [st52, St.set, h1, h2, h3, h4, h5, h6, h7, h8, h9, h10, Ne.symm h1, Ne.symm h2, Ne.symm h3, Ne.symm h4, Ne.symm h5, Ne.symm h6, Ne.symm h7, Ne.symm h8, Ne.symm h9, Ne.symm h10]
  have k5 : S0.box b5 = some [.int .i64 n] := by rw [← hS0]; simp [st52, St.set, h1, h2, h3, h4, h5, h6, h7, h8, h9, h10, Ne.symm h1, Ne.symm h2, Ne.symm h3, Ne.symm h4, Ne.symm h5, Ne.symm h6, Ne.symm h7, Ne.symm h8, Ne.symm h9, Ne.symm h10]
  have k6 : S0.box b6 = some [.slice o (rws eT b)] := by rw [← hS0]; simp [st52, St.set, h1, h2, h3, h4, h5, h6, h7, h8, h9, h10, Ne.symm h1, Ne.symm h2, Ne.symm h3, Ne.symm h4, Ne.symm h5, Ne.symm h6, Ne.symm h7, Ne.symm h8, Ne.symm h9, Ne.symm h10]
  have k7 : S0.box b7 = some [.slice o2 (rws eT c)] := by rw [← hS0]; simp [st52, St.set, h1, h2, h3, h4, h5, h6, h7, h8, h9, h10, Ne.symm h1, Ne.symm h2, Ne.symm h3, Ne.symm h4, Ne.symm h5, Ne.symm h6, Ne.symm h7, Ne.symm h8, Ne.symm h9, Ne.symm h10]
  have k11 : S0.box b11 = some [.slice .nil [], .int .i64 0] := by rw [← hS0]; simp [st52, St.set, h1, h2, h3, h4, h5, h6, h7, h8, h9, h10, Ne.symm h1, Ne.symm h2, Ne.symm h3, Ne.symm h4, Ne.symm h5, Ne.symm h6, Ne.symm h7, Ne.symm h8, Ne.symm h9, Ne.symm h10]
  have hle11 : St.le (({} : St).set b11 [.slice .nil [], .int .i64 0]) S0 := by rw [← hS0, st52]; exact le_set (St.le.nil _)
  refine F52.xcall rfl fun T hT => ?_
  rw [hS0]
  simp -implicitDefEqProofs only [go_sem, c52, hT, k4, k5, k6, k7, k11, eEn_len, eEn_take, anD, set_set, forall_eq, nilc_p, gdD, ldD, e_len, e_sfd, e_gh]
  obtain ⟨L, hL⟩ : ∃ L : List LI, [.bx b6 [.slice o (rws eT b)], .bx b4 (eEn e), .bx b5 [.int .i64 n], .bx b7 [.slice o2 (rws eT c)], .bx b11 [.slice .nil [], .int .i64 0]] = L := ⟨_, rfl⟩
  have hSL : S0 = putL {} L := by rw [← hS0, ← hL]; rfl
  rw [hSL]
  have hoff0 : offL {} L := by rw [← hL]; exact ⟨St.not_has_nil _, St.not_has_nil _, St.not_has_nil _, St.not_has_nil _, St.not_has_nil _, trivial⟩
  have hle : ∀ s', St.le (({} : St).set b11 [.slice .nil [], .int .i64 0]) (putL s' L) := fun s' => by
    rw [← hL]; exact le_set (St.le.nil _)
  refine callB_under (s := {}) L hoff0 (begin53 e n b.length c o2 hw hc (by omega)) (fun d s' hR hoff => ?_) fun d s' hR => ?_
  rotate_left
  · obtain ⟨a, w, hbg, rfl, rfl⟩ := hR
    simp -implicitDefEqProofs only [go_sem]
    exact ⟨_, _, DLe.refl _, hle _, a, w, checkD_some hbg, rfl, rfl⟩
  obtain ⟨hbg, q, rfl, rfl⟩ := hR
  have hq : b6 ≠ q ∧ b4 ≠ q ∧ b5 ≠ q ∧ b7 ≠ q ∧ b11 ≠ q := by
    have hx : ∀ x, ¬ (({} : St).set q (eP e b.length (decC c).1.es 0 .nilfunc (startS e n) none)).has x → x ≠ q := fun x h he => h (by rw [he, set_has]; exact .inl rfl)
    rw [← hL] at hoff
    obtain ⟨o1, o2, o3, o4, o5, -⟩ := hoff
    exact ⟨hx _ o1, hx _ o2, hx _ o3, hx _ o4, hx _ o5⟩
  obtain ⟨q6, q4, q5, q7, q11⟩ := hq
  have kq : (putL (({} : St).set q (eP e b.length (decC c).1.es 0 .nilfunc (startS e n) none)) L).box q = some (eP e b.length (decC c).1.es 0 .nilfunc (startS e n) none) := by
    rw [← hL]; simp [putL, LI.put, St.set, q6, q4, q5, q7, q11, Ne.symm q6, Ne.symm q4, Ne.symm q5, Ne.symm q7, Ne.symm q11]
  simp -implicitDefEqProofs only [go_sem, hT, kq, eEn_len, eEn_take, anD, set_set, forall_eq, nilc_p, gdD, ldD, e_len, e_sfd, e_gh, q6, q4, q5, q7, q11, Ne.symm q6, Ne.symm q4, Ne.symm q5, Ne.symm q7, Ne.symm q11]
  obtain ⟨L', hL'⟩ : ∃ L' : List LI, [.bx b4 (eEn e), .bx b5 [.int .i64 n], .bx b7 [.slice o2 (rws eT c)], .bx b11 [.slice .nil [], .int .i64 0]] = L' := ⟨_, rfl⟩
  obtain ⟨sf, hsf⟩ : ∃ sf, ({} : St).set b6 [.slice o (rws eT b)] = sf := ⟨_, rfl⟩
  have hst : (putL (({} : St).set q (eP e b.length (decC c).1.es 0 .nilfunc (startS e n) none)) L).set q (eP e b.length (decC c).1.es 0 (.func (.func 54) [] [.ptr b6 0]) (startS e n) none) =
      putL (putL sf (L0 e b (decC c).1.es 0 (.func (.func 54) [] [.ptr b6 0]) (startS e n) none q)) L' := by
    rw [← hL, ← hL', ← hsf]
    show ((((((({} : St).set q _).set b6 _).set b4 _).set b5 _).set b7 _).set b11 _).set q _ = (((((({} : St).set b6 _).set q _).set b4 _).set b5 _).set b7 _).set b11 _
    rw [set_comm q11, set_comm q7, set_comm q5, set_comm q4, set_comm q6, set_set, set_comm (Ne.symm q6)]
  rw [hst]
  obtain ⟨r1, r2, r3, r4⟩ := decC_rise c
  have hb2 : b.length ≤ 4096 := by
    unfold beginD at hbg
    split at hbg; · cases hbg
    split at hbg; · cases hbg
    omega
  have hoffL0 : offL sf (L0 e b (decC c).1.es 0 (.func (.func 54) [] [.ptr b6 0]) (startS e n) none q) := by
    refine ⟨fun h => ?_, fun x hx => (by cases hx), trivial⟩
    rw [← hsf, set_has] at h
    rcases h with h | h
    · exact q6 h.symm
    · exact St.not_has_nil _ h
  have hoffL' : offL (putL sf (L0 e b (decC c).1.es 0 (.func (.func 54) [] [.ptr b6 0]) (startS e n) none q)) L' := by
    have hx : ∀ x, x ≠ q → x ≠ b6 → ¬ (putL sf (L0 e b (decC c).1.es 0 (.func (.func 54) [] [.ptr b6 0]) (startS e n) none q)).has x := fun x h1 h2 h => by
      have h' : (sf.set q (eP e b.length (decC c).1.es 0 (.func (.func 54) [] [.ptr b6 0]) (startS e n) none)).has x := h
      rw [set_has, ← hsf, set_has] at h'
      rcases h' with h | h | h
      · exact h1 h
      · exact h2 h
      · exact St.not_has_nil _ h
    rw [← hL']
    exact ⟨hx _ q4 (Ne.symm h2), hx _ q5 (Ne.symm h3), hx _ q7 h6, hx _ q11 h9, trivial⟩
  have hle' : ∀ s', St.le (({} : St).set b11 [.slice .nil [], .int .i64 0]) (putL s' L') := fun s' => by
    rw [← hL']; exact le_set (St.le.nil _)
  refine callB_under L' hoffL' (run55 (s0 := startS e n) hw ⟨r1, r2, r3⟩ (fetch54 b o b6) hb2 hsf.symm rfl rfl rfl hoffL0) (fun d s' hR hoff2 => ?_) fun d s' hR => ?_
  rotate_left
  · obtain ⟨a, w, hno, rfl, az, hfs, hasc⟩ := hR
    simp -implicitDefEqProofs only [go_sem]
    refine ⟨_, _, DLe.refl _, hle' _, a, w, ?_, rfl, rfl⟩
    unfold checkD
    rw [hbg]
    simp only
    rcases hno with hno | ⟨s2, x, hok, hlate, rfl, rfl⟩
    · rw [hno]
    · rw [hok]; simp only; rw [hlate]
  obtain ⟨s2, hok, hlate, rfl, nx, o', sf', hfs, hof, rfl⟩ := hR
  have kq2 : (putL (putL sf' (L0 e b (decC c).1.es nx (.func (.func 54) [] [.ptr b6 0]) s2 o' q)) L').box q = some (eP e b.length (decC c).1.es nx (.func (.func 54) [] [.ptr b6 0]) s2 o') := by
    rw [← hL']
    simp [putL, L0, LI.put, grS_boxa, St.set, q6, q4, q5, q7, q11, Ne.symm q6, Ne.symm q4, Ne.symm q5, Ne.symm q7, Ne.symm q11]
  have k11' : (putL (putL sf' (L0 e b (decC c).1.es nx (.func (.func 54) [] [.ptr b6 0]) s2 o' q)) L').box b11 = some [.slice .nil [], .int .i64 0] := by
    rw [← hL']; simp [putL, LI.put, St.set]
  have hch : checkD e n b c = ((s2.cmp, s2.fet), 0, 0) := by
    unfold checkD
    rw [hbg]; simp only; rw [hok]; simp only; rw [hlate]
  simp -implicitDefEqProofs only [go_sem, hT, kq2, k11', eEn_len, eEn_take, anD, set_set, forall_eq, nilc_p, gdD, ldD, e_len, e_sfd, e_gh, q6, q4, q5, q7, q11, Ne.symm q6, Ne.symm q4, Ne.symm q5, Ne.symm q7, Ne.symm q11]
  exact ⟨_, ({} : St).set b11 [grD 1 o' (rws eN s2.fet), .int .i64 s2.cmp], DLe.refl _, le_set (St.le.nil _), s2.fet, s2.cmp, o', hch, rfl⟩
theorem check15 (e : En) (n : Int) (b c : List Ty) (o o2 : Own) (hw : WideE e) (hb : b.length ≤ 140737488355328) (hc : c.length ≤ 140737488355328) :
    PCall Tryz.prog 15 [.agg (eEn e), .int .i64 n, .slice o (rws eT b), .slice o2 (rws eT c)] (.tup [.agg (eGh (checkD e n b c).1), .int .i64 (checkD e n b c).2.1, .int .i64 (checkD e n b c).2.2]) := by
  refine RCall.pcall ?_
  refine F15.rcall rfl fun T hT => ?_
  simp -implicitDefEqProofs only [go_sem, c15, hT, eEn_len, eEn_take, anD, set_set, forall_eq, nilc_p, gdD, ldD, resM_cell]
  intro b4 b5 m1 m1' b6 m2 m2' m3 m3' b7 m4 m4' m5 m5' m6 m6' b8 m7 m7' m8 m8' m9 m9' m10 m10' b11 n1 n1' n2 n2' n3 n3' n4 n4' n5 n5'
  have hcall := caught51 (check52 e n b c o o2 b4 b5 b6 b7 b11 hw hb hc m1 m3 m2 m6 m5 m4 n5 n4 n3 n2) fun d s' ⟨a, w, _, h, _⟩ => ⟨a, w, h⟩
  have hst : ((((((({} : St).set b4 (eEn e)).set b5 [.int .i64 n]).set b6 [.slice o (rws eT b)]).set b7 [.slice o2 (rws eT c)]).set b8 [.slice .nil [], .int .i64 0]).set b11 [.slice .nil [], .int .i64 0]) = putL (st52 e n b c o o2 b4 b5 b6 b7 b11) [.bx b8 [.slice .nil [], .int .i64 0]] := by
    show _ = (((((({} : St).set b6 _).set b4 _).set b5 _).set b7 _).set b11 _).set b8 _
    rw [set_comm n1', set_comm (σ := (({} : St).set b4 (eEn e))) m2', set_comm (σ := ({} : St)) m3']
  rw [hst]
  refine callB_under [.bx b8 [.slice .nil [], .int .i64 0]] ⟨?_, trivial⟩ (hcall.xcall (Rp := fun _ _ => False)) (fun d s' hR hoff => ?_) fun d s' h => h.elim
  · intro h
    rw [st52, set_has, set_has, set_has, set_has, set_has] at h
    rcases h with h | h | h | h | h | h
    · exact n1' h
    · exact m7 h
    · exact m9 h
    · exact m10 h
    · exact m8 h
    · exact St.not_has_nil _ h
  rcases hR with ⟨d0, ⟨fet, cmp, o', hch, rfl⟩, rfl⟩ | ⟨a, w, ⟨a', w', hch, href, rfl⟩, rfl⟩
  · rw [hch]
    have hp : putL (({} : St).set b11 [grD 1 o' (rws eN fet), .int .i64 cmp]) [.bx b8 [.slice .nil [], .int .i64 0]] = (({} : St).set b11 [grD 1 o' (rws eN fet), .int .i64 cmp]).set b8 [.slice .nil [], .int .i64 0] := rfl
    rw [hp]
    simp -implicitDefEqProofs only [go_sem, hT, eEn_len, eEn_take, anD, set_set, forall_eq, nilc_p, gdD, ldD, resM_cell, n1, n1']
    exact ⟨_, {}, DLe.tup (.cons (DLe.agg (.cons grD_le (.refl _))) (.refl _)), St.le.nil _, rfl⟩
  · rw [hch]
    have hp : putL (({} : St).set b11 [.slice .nil [], .int .i64 0]) [.bx b8 [.slice .nil [], .int .i64 0]] = (({} : St).set b11 [.slice .nil [], .int .i64 0]).set b8 [.slice .nil [], .int .i64 0] := rfl
    rw [hp]
    simp -implicitDefEqProofs only [go_sem, hT, eEn_len, eEn_take, anD, set_set, forall_eq, nilc_p, gdD, ldD, resM_cell, n1, n1']
    obtain ⟨e1, e2⟩ : a = a' ∧ (w : Int) = w' := by simpa [refD] using href
    obtain rfl : w = w' := by omega
    subst e1
    exact ⟨_, {}, ghz, St.le.nil _, rfl⟩
def c17 : AC :=
.seq (rg [oO 2 (.assign (.const (.slice none 0 0)))])
 (.seq (.seq (rg [oO 3 (.move (tT 0)), oO 4 (.binOp .eql 26 (tT 3) (.const (.slice none 0 0)) 26)])
 (.cond (tT 4) (.seq (rg [oO 2 (.assign (.const (.slice none 0 0)))])
 (.ret))
 (.skip)))
 (.seq (rg [oO 5 (.buildSlice 26 0 #[]), oO 6 (.move (tT 0)), oO 7 (cB .append #[tT 5, tT 6] #[26, 26]), oO 2 (.assign (tT 7))])
 .ret))
theorem F17 : Fun1 Tryz.prog 17 8 c17 [.tmp 2] := mkT Tryz.func17 rfl (by decide +kernel) Tryz.ntmps17 rfl (by kernel_rfl) rfl
def c45 : AC :=
.seq (rg [oO 4 (.assign (.const (.bool false)))])
 (.seq (.seq (rg [oO 6 (.move (tT 0)), oO 7 (cB .len #[tT 6] #[26]), oO 8 (.move (tT 1)), oO 9 (cB .len #[tT 8] #[26]), oO 10 (.binOp .neq 3 (tT 7) (tT 9) 3)])
 (.cond (tT 10) (.seq (rg [oO 4 (.assign (.const (.bool false)))])
 (.ret))
 (.skip)))
 (.seq (.seq (rg [oO 11 (.move (tT 0)), oO 12 (cB .len #[tT 11] #[26]), oO 13 (.move (kI 0))])
 (.block 0 (.loop (.seq (rg [oO 14 (.binOp .lss 3 (tT 13) (tT 12) 3)])
 (.seq (.cond (tT 14) (.skip)
 (.exit 0))
 (.seq (.block 1 (.seq (rg [oO 15 (.move (tT 13)), oO 5 (.assign (tT 15))])
 (.seq (.reg true [] [⟨⟨some 16, .move (tT 0), none⟩, false, true⟩, ⟨⟨some 17, .move (tT 5), none⟩, false, true⟩, ⟨⟨some 18, .indexAddr 26 (tT 16) (tT 17), none⟩, false, true⟩, ⟨⟨some 19, .load 5 (tT 18), none⟩, false, true⟩, ⟨⟨some 20, .move (tT 1), none⟩, false, true⟩, oO 21 (.move (tT 5)), oO 22 (.indexAddr 26 (tT 20) (tT 21)), oO 23 (.load 5 (tT 22)), oO 24 (.binOp .neq 5 (tT 19) (tT 23) 5)])
 (.cond (tT 24) (.seq (rg [oO 4 (.assign (.const (.bool false)))])
 (.ret))
 (.skip)))))
 (rg [oO 25 (.binOp .add 3 (tT 13) (kI 1) 3), oO 13 (.move (tT 25))])))))))
 (.seq (rg [oO 4 (.assign (.const (.bool true)))])
 .ret)))
theorem F45 : Fun1 Tryz.prog 45 26 c45 [.tmp 4] := mkT Tryz.func45 rfl (by decide +kernel) Tryz.ntmps45 rfl (by kernel_rfl) rfl
theorem equal45 (xs ys : List Ty) (o o' : Own) (hl : xs.length ≤ 140737488355328) : PCall Tryz.prog 45 [.slice o (rws eT xs), .slice o' (rws eT ys)] (.bool (decide (xs = ys))) := by
  refine F45.pcall' rfl fun T hT => ?_
  simp -implicitDefEqProofs only [go_sem, c45, hT]
  refine br_split (fun h => ?_) fun h => ?_
  · refine DLe_bool ?_
    simp at h
    simp
    rintro rfl
    exact h rfl
  have hxy : xs.length = ys.length := by simp at h; omega
  refine loopL F45 (fun i : Nat => [(0, .slice o (rws eT xs)), (1, .slice o' (rws eT ys)), (12, .int .i64 xs.length), (13, .int .i64 i)]) (fun _ => {}) (fun i => i ≤ xs.length ∧ xs.take i = ys.take i) (fun i => xs.length - i) 0
    ⟨Nat.zero_le _, rfl⟩ ?_ (St.le.refl _) ?_
  · simp -implicitDefEqProofs only [go_sem, hT, Int.ofNat_zero]
  rintro i ⟨hi, heq⟩ T hT
  simp -implicitDefEqProofs only [go_sem, hT]
  refine br_split (fun h => ?_) fun h => ?_
  · have h : i < xs.length := by simpa using h
    simp -implicitDefEqProofs only [go_sem, hT, Int.toNat_natCast, rws_at h, rws_at (show i < ys.length by omega), eT_len, eT, eT_eq]
    refine ⟨⟨by omega, by omega⟩, ⟨by omega, by omega⟩, ?_⟩
    refine br_split (fun h' => ?_) fun h' => ?_
    · refine DLe_bool ?_
      simp at h'
      simp
      rintro rfl
      exact h' rfl
    · simp at h'
      refine ⟨i + 1, ⟨by omega, take_eq_step heq h (by omega) h'⟩, by omega, ?_, St.le.refl _⟩
      rw [wrap_i64 (by omega) (by omega)]
      simp
  · have h : ¬ i < xs.length := by simpa using h
    refine DLe_bool ?_
    rw [List.take_of_length_le (by omega), List.take_of_length_le (by omega)] at heq
    simp [heq]
theorem gh_len (g : Nat × List Nat) : (eGh g).length = 2 := rfl
def c3 : AC :=
.seq (rg [oO 2 (.box 25 (tT 0)), oO 3 (.box 28 (tT 1)), oO 4 (.assign (.const (.bool false)))])
 (.seq (.reg true [3] [⟨⟨some 18, .load 25 (tT 2), none⟩, false, true⟩, ⟨⟨some 19, cF (.func 16) #[tT 18] #[25], none⟩, false, true⟩, ⟨⟨some 20, .fieldAddr 28 (tT 3) 0, none⟩, true, true⟩, ⟨⟨some 21, .load 3 (tT 20), none⟩, true, true⟩, ⟨⟨some 22, .fieldAddr 28 (tT 3) 1, none⟩, true, true⟩, ⟨⟨some 23, .load 26 (tT 22), none⟩, true, true⟩, ⟨⟨some 24, cF (.func 17) #[tT 23] #[26], none⟩, false, true⟩, ⟨⟨some 25, .fieldAddr 28 (tT 3) 2, none⟩, true, true⟩, ⟨⟨some 26, .load 26 (tT 25), none⟩, true, true⟩, ⟨⟨some 27, cF (.func 17) #[tT 26] #[26], none⟩, false, true⟩, ⟨⟨some 28, cF (.func 15) #[tT 19, tT 21, tT 24, tT 27] #[25, 3, 26, 26], none⟩, false, true⟩, ⟨⟨some 17, .move (tT 28), none⟩, false, true⟩, ⟨⟨some 29, .extract (tT 17) 0, none⟩, false, true⟩, ⟨⟨some 30, .extract (tT 17) 1, none⟩, true, true⟩, ⟨⟨some 31, .extract (tT 17) 2, none⟩, true, true⟩, ⟨⟨some 5, .alloc 31, none⟩, true, false⟩, oN (.store 31 (tT 5) (tT 29)), oO 6 (.assign (tT 30)), oO 7 (.assign (tT 31))])
 (.seq (.seq (rg [oO 33 (.load 25 (tT 2)), oO 34 (.fieldAddr 28 (tT 3) 0), oO 35 (.load 3 (tT 34)), oO 36 (.fieldAddr 28 (tT 3) 1), oO 37 (.load 26 (tT 36)), oO 38 (.fieldAddr 28 (tT 3) 2), oO 39 (.load 26 (tT 38)), oO 40 (cF (.func 18) #[tT 33, tT 35, tT 37, tT 39] #[25, 3, 26, 26]), oO 32 (.move (tT 40)), oO 41 (.extract (tT 32) 0), oO 42 (.extract (tT 32) 1), oO 43 (.extract (tT 32) 2), oO 8 (.alloc 31), oN (.store 31 (tT 8) (tT 41)), oO 9 (.assign (tT 42)), oO 10 (.assign (tT 43))])
 (.seq (rg [oO 44 (.move (tT 10)), oO 45 (.binOp .neq 32 (tT 44) (kI 0) 32)])
 (.cond (tT 45) (.seq (rg [oO 46 (.move (tT 7)), oO 47 (.move (tT 10)), oO 48 (.binOp .eql 32 (tT 46) (tT 47) 32), oO 49 (.move (tT 48)), oG 50 (.fieldAddr 31 (tT 5) 0) 49 true, oG 51 (.load 29 (tT 50)) 49 true, oG 52 (cB .len #[tT 51] #[29]) 49 true, oG 53 (.binOp .eql 3 (tT 52) (kI 0) 3) 49 true, oO 54 (.pick (tT 49) (tT 53) (.const (.bool false))), oO 55 (.move (tT 54)), oG 56 (.fieldAddr 31 (tT 5) 1) 55 true, oG 57 (.load 3 (tT 56)) 55 true, oG 58 (.binOp .eql 3 (tT 57) (kI 0) 3) 55 true, oO 59 (.pick (tT 55) (tT 58) (.const (.bool false))), oO 4 (.assign (tT 59))])
 (.ret))
 (.skip))))
 (.seq (.seq (rg [oO 60 (.move (tT 7)), oO 61 (.binOp .neq 32 (tT 60) (kI 0) 32), oO 62 (.move (tT 61)), oG 63 (.fieldAddr 31 (tT 5) 0) 62 false, oG 64 (.load 29 (tT 63)) 62 false, oG 65 (cB .len #[tT 64] #[29]) 62 false, oG 66 (.binOp .eql 3 (tT 65) (kI 0) 3) 62 false, oO 67 (.pick (tT 62) (.const (.bool true)) (tT 66)), oO 68 (.move (tT 67)), oG 69 (.fieldAddr 31 (tT 5) 0) 68 false, oG 70 (.load 29 (tT 69)) 68 false, oG 71 (.indexAddr 29 (tT 70) (kI 0)) 68 false, oG 72 (.load 3 (tT 71)) 68 false, oG 73 (.binOp .neq 3 (tT 72) (kI 0) 3) 68 false, oO 74 (.pick (tT 68) (.const (.bool true)) (tT 73))])
 (.cond (tT 74) (.seq (rg [oO 4 (.assign (.const (.bool false)))])
 (.ret))
 (.skip)))
 (.seq (rg [oO 11 (.assign (kI 0)), oO 12 (.assign (kI 0))])
 (.seq (.seq (rg [oO 75 (.fieldAddr 31 (tT 5) 0), oO 76 (.load 29 (tT 75)), oO 77 (cB .len #[tT 76] #[29]), oO 78 (.move (kI 0))])
 (.block 0 (.loop (.seq (rg [oO 79 (.binOp .lss 3 (tT 78) (tT 77) 3)])
 (.seq (.cond (tT 79) (.skip)
 (.exit 0))
 (.seq (.block 1 (.seq (rg [oO 80 (.indexAddr 29 (tT 76) (tT 78)), oO 81 (.load 3 (tT 80)), oO 14 (.assign (tT 81))])
 (.seq (.seq (rg [oO 82 (.move (tT 14)), oO 83 (.move (tT 12)), oO 84 (.binOp .lss 3 (tT 82) (tT 83) 3)])
 (.cond (tT 84) (.seq (rg [oO 4 (.assign (.const (.bool false)))])
 (.ret))
 (.skip)))
 (.seq (rg [oO 86 (.fieldAddr 28 (tT 3) 1), oO 87 (.load 26 (tT 86)), oO 88 (.move (tT 14)), oO 89 (cF (.func 19) #[tT 87, tT 88] #[26, 3]), oO 85 (.move (tT 89)), oO 90 (.extract (tT 85) 0), oO 91 (.extract (tT 85) 1), oO 15 (.alloc 38), oN (.store 38 (tT 15) (tT 90)), oO 16 (.assign (tT 91))])
 (.seq (.seq (rg [oO 92 (.move (tT 16)), oO 93 (.binOp .neq 32 (tT 92) (kI 0) 32)])
 (.cond (tT 93) (.seq (rg [oO 4 (.assign (.const (.bool false)))])
 (.ret))
 (.skip)))
 (.seq (rg [oO 94 (.move (tT 14)), oO 95 (.fieldAddr 38 (tT 15) 1), oO 96 (.load 5 (tT 95)), oO 97 (cF (.func 20) #[tT 96] #[5]), oO 98 (.binOp .add 3 (tT 94) (tT 97) 3), oO 12 (.assign (tT 98))])
 (.seq (.seq (rg [oO 99 (.fieldAddr 38 (tT 15) 1), oO 100 (.load 5 (tT 99)), oO 101 (cF (.func 21) #[tT 100] #[5]), oO 102 (.unOp .not 4 (tT 101))])
 (.cond (tT 102) (rg [oO 103 (.move (tT 11)), oO 104 (.binOp .add 3 (tT 103) (kI 1) 3), oO 11 (.assign (tT 104))])
 (.skip)))
 (.seq (rg [oO 105 (.fieldAddr 38 (tT 15) 1), oO 106 (.load 5 (tT 105)), oO 107 (cF (.func 22) #[tT 106] #[5])])
 (.cond (tT 107) (rg [oO 108 (.move (tT 11)), oO 109 (.binOp .add 3 (tT 108) (kI 1) 3), oO 11 (.assign (tT 109))])
 (.skip))))))))))
 (rg [oO 110 (.binOp .add 3 (tT 78) (kI 1) 3), oO 78 (.move (tT 110))])))))))
 (.seq (rg [oO 111 (.fieldAddr 31 (tT 5) 1), oO 112 (.load 3 (tT 111)), oO 113 (.binOp .geq 3 (tT 112) (kI 0) 3), oO 114 (.move (tT 113)), oG 115 (.fieldAddr 31 (tT 5) 1) 114 true, oG 116 (.load 3 (tT 115)) 114 true, oG 117 (.move (tT 11)) 114 true, oG 118 (.binOp .add 3 (tT 117) (kI 1) 3) 114 true, oG 119 (.binOp .leq 3 (tT 116) (tT 118) 3) 114 true, oO 120 (.pick (tT 114) (tT 119) (.const (.bool false))), oO 4 (.assign (tT 120))])
 .ret))))))
theorem clone17p (xs : List Ty) (o : Own) (h0 : nilOk o xs.length) (hl : xs.length * 1 ≤ 140737488355328) : PCall Tryz.prog 17 [.slice o (rws eT xs)] (.slice .no (rws eT xs)) := by
  refine F17.pcall' rfl fun T hT => ?_
  simp -implicitDefEqProofs only [go_sem, c17, hT]
  intro r hr
  refine br_split (fun h => ?_) fun h => ?_
  · exact DLe_nils (nilR_nil hr h fun h => by simpa [rws_nil] using h0 h)
  · simp -implicitDefEqProofs only [go_sem, hT, rws_one eT_len, rws_nil, hl]
    rintro rfl
    exact DLe_nils rfl
def c76 : AC :=
.seq (rg [oO 1 (.box 97 (tT 0)), oO 2 (.alloc 97)])
 (.seq (rg [oO 3 (.fieldAddr 97 (tT 1) 1), oO 4 (.load 95 (tT 3)), oO 5 (cF (.func 57) #[tT 4] #[95]), oO 6 (.fieldAddr 97 (tT 1) 1), oN (.store 95 (tT 6) (tT 5))])
 (.seq (rg [oO 7 (.fieldAddr 97 (tT 1) 3), oO 8 (.load 26 (tT 7)), oO 9 (cF (.func 17) #[tT 8] #[26]), oO 10 (.fieldAddr 97 (tT 1) 3), oN (.store 26 (tT 10) (tT 9))])
 (.seq (rg [oO 11 (.load 97 (tT 1)), oN (.store 97 (tT 2) (tT 11))])
 .ret)))
theorem F76 : Fun1 Tryz.prog 76 12 c76 [.cell 2 97] := mkT Tryz.func76 rfl (by decide +kernel) Tryz.ntmps76 rfl (by kernel_rfl) rfl
def c78 : AC :=
.seq (rg [oO 2 (.box 97 (tT 0)), oO 3 (.box 97 (tT 1)), oO 4 (.assign (.const (.bool false)))])
 (.seq (rg [oO 5 (.fieldAddr 97 (tT 2) 0), oO 6 (.load 9 (tT 5)), oO 7 (.fieldAddr 97 (tT 3) 0), oO 8 (.load 9 (tT 7)), oO 9 (.binOp .eql 9 (tT 6) (tT 8) 9), oO 10 (.move (tT 9)), oG 11 (.fieldAddr 97 (tT 2) 1) 10 true, oG 12 (.load 95 (tT 11)) 10 true, oG 13 (.fieldAddr 97 (tT 3) 1) 10 true, oG 14 (.load 95 (tT 13)) 10 true, oG 15 (cF (.func 71) #[tT 12, tT 14] #[95, 95]) 10 true, oO 16 (.pick (tT 10) (tT 15) (.const (.bool false))), oO 17 (.move (tT 16)), oG 18 (.fieldAddr 97 (tT 2) 2) 17 true, oG 19 (.load 3 (tT 18)) 17 true, oG 20 (.fieldAddr 97 (tT 3) 2) 17 true, oG 21 (.load 3 (tT 20)) 17 true, oG 22 (.binOp .eql 3 (tT 19) (tT 21) 3) 17 true, oO 23 (.pick (tT 17) (tT 22) (.const (.bool false))), oO 24 (.move (tT 23)), oG 25 (.fieldAddr 97 (tT 2) 3) 24 true, oG 26 (.load 26 (tT 25)) 24 true, oG 27 (.fieldAddr 97 (tT 3) 3) 24 true, oG 28 (.load 26 (tT 27)) 24 true, oG 29 (cF (.func 45) #[tT 26, tT 28] #[26, 26]) 24 true, oO 30 (.pick (tT 24) (tT 29) (.const (.bool false))), oO 4 (.assign (tT 30))])
 .ret)
theorem F78 : Fun1 Tryz.prog 78 31 c78 [.tmp 4] := mkT Tryz.func78 rfl (by decide +kernel) Tryz.ntmps78 rfl (by kernel_rfl) rfl
def c37 : AC :=
.seq (rg [oO 1 (.box 74 (tT 0)), oO 2 (.alloc 74)])
 (.seq (.seq (.reg true [1] [⟨⟨some 8, .fieldAddr 74 (tT 1) 0, none⟩, true, true⟩, ⟨⟨some 9, .load 9 (tT 8), none⟩, true, true⟩, ⟨⟨some 10, .fieldAddr 74 (tT 1) 1, none⟩, false, true⟩, ⟨⟨some 11, .load 22 (tT 10), none⟩, false, true⟩, ⟨⟨some 12, cF (.func 56) #[tT 11] #[22], none⟩, false, true⟩, ⟨⟨some 13, .build 74 #[(0, .tmp 9), (1, .tmp 12)], none⟩, false, true⟩, ⟨⟨some 3, .alloc 74, none⟩, true, false⟩])
 (rg [oN (.store 74 (tT 3) (tT 13))]))
 (.seq (.seq (rg [oO 14 (.fieldAddr 74 (tT 1) 2), oO 15 (.load 71 (tT 14)), oO 16 (cB .len #[tT 15] #[71]), oO 17 (.move (kI 0))])
 (.block 0 (.loop (.seq (rg [oO 18 (.binOp .lss 3 (tT 17) (tT 16) 3)])
 (.seq (.cond (tT 18) (.skip)
 (.exit 0))
 (.seq (.block 1 (.seq (rg [oO 19 (.indexAddr 71 (tT 15) (tT 17)), oO 20 (.load 97 (tT 19)), oO 5 (.alloc 97), oN (.store 97 (tT 5) (tT 20))])
 (.seq (.reg true [3] [⟨⟨some 21, .fieldAddr 74 (tT 3) 2, none⟩, true, true⟩, ⟨⟨some 22, .load 71 (tT 21), none⟩, true, true⟩, oO 23 (.load 97 (tT 5)), oO 24 (cF (.func 76) #[tT 23] #[97]), oO 25 (.buildSlice 71 1 #[(0, .tmp 24)])])
 (rg [oO 26 (cB .append #[tT 22, tT 25] #[71, 71]), oO 27 (.fieldAddr 74 (tT 3) 2), oN (.store 71 (tT 27) (tT 26))]))))
 (rg [oO 28 (.binOp .add 3 (tT 17) (kI 1) 3), oO 17 (.move (tT 28))])))))))
 (.seq (.seq (rg [oO 29 (.fieldAddr 74 (tT 1) 3), oO 30 (.load 72 (tT 29)), oO 31 (cB .len #[tT 30] #[72]), oO 32 (.move (kI 0))])
 (.block 2 (.loop (.seq (rg [oO 33 (.binOp .lss 3 (tT 32) (tT 31) 3)])
 (.seq (.cond (tT 33) (.skip)
 (.exit 2))
 (.seq (.block 3 (.seq (rg [oO 34 (.indexAddr 72 (tT 30) (tT 32)), oO 35 (.load 26 (tT 34)), oO 7 (.assign (tT 35))])
 (.seq (.reg true [3] [⟨⟨some 36, .fieldAddr 74 (tT 3) 3, none⟩, true, true⟩, ⟨⟨some 37, .load 72 (tT 36), none⟩, true, true⟩, oO 38 (.move (tT 7)), oO 39 (cF (.func 17) #[tT 38] #[26]), oO 40 (.buildSlice 72 1 #[(0, .tmp 39)])])
 (rg [oO 41 (cB .append #[tT 37, tT 40] #[72, 72]), oO 42 (.fieldAddr 74 (tT 3) 3), oN (.store 72 (tT 42) (tT 41))]))))
 (rg [oO 43 (.binOp .add 3 (tT 32) (kI 1) 3), oO 32 (.move (tT 43))])))))))
 (.seq (rg [oO 44 (.load 74 (tT 3)), oN (.store 74 (tT 2) (tT 44))])
 .ret))))
theorem F37 : Fun1 Tryz.prog 37 45 c37 [.cell 2 74] := mkT Tryz.func37 rfl (by decide +kernel) Tryz.ntmps37 rfl (by kernel_rfl) rfl
def c38 : AC :=
.seq (rg [oO 1 (.box 74 (tT 0)), oO 2 (.assign (kI 0)), oO 3 (.assign (kI 0)), oO 4 (.assign (kI 0))])
 (.seq (.seq (rg [oO 13 (.fieldAddr 74 (tT 1) 3), oO 14 (.load 72 (tT 13)), oO 15 (cB .len #[tT 14] #[72]), oO 16 (.fieldAddr 74 (tT 1) 2), oO 17 (.load 71 (tT 16)), oO 18 (cB .len #[tT 17] #[71]), oO 19 (.binOp .neq 3 (tT 15) (tT 18) 3)])
 (.cond (tT 19) (.seq (rg [oO 2 (.assign (kI 0)), oO 3 (.assign (kI 0)), oO 4 (.assign (kI 1))])
 (.ret))
 (.skip)))
 (.seq (rg [oO 20 (.fieldAddr 74 (tT 1) 1), oO 21 (.load 22 (tT 20)), oO 22 (.build 25 #[(0, .tmp 21)]), oO 5 (.alloc 25), oN (.store 25 (tT 5) (tT 22))])
 (.seq (.seq (rg [oO 23 (.fieldAddr 74 (tT 1) 2), oO 24 (.load 71 (tT 23)), oO 25 (cB .len #[tT 24] #[71]), oO 26 (.move (kI 0))])
 (.block 0 (.loop (.seq (rg [oO 27 (.binOp .lss 3 (tT 26) (tT 25) 3)])
 (.seq (.cond (tT 27) (.skip)
 (.exit 0))
 (.seq (.block 1 (.seq (rg [oO 28 (.indexAddr 71 (tT 24) (tT 26)), oO 29 (.load 97 (tT 28)), oO 7 (.alloc 97), oN (.store 97 (tT 7) (tT 29))])
 (rg [oO 30 (.fieldAddr 25 (tT 5) 1), oO 31 (.load 23 (tT 30)), oO 32 (.fieldAddr 97 (tT 7) 1), oO 33 (.load 95 (tT 32)), oO 34 (.buildSlice 23 1 #[(0, .tmp 33)]), oO 35 (cB .append #[tT 31, tT 34] #[23, 23]), oO 36 (.fieldAddr 25 (tT 5) 1), oN (.store 23 (tT 36) (tT 35))])))
 (rg [oO 37 (.binOp .add 3 (tT 26) (kI 1) 3), oO 26 (.move (tT 37))])))))))
 (.seq (.seq (rg [oO 38 (.load 25 (tT 5)), oO 39 (cF (.func 77) #[tT 38, kI 16] #[25, 3]), oO 40 (.binOp .neq 32 (tT 39) (kI 0) 32)])
 (.cond (tT 40) (.seq (rg [oO 2 (.assign (kI 0)), oO 3 (.assign (kI 0)), oO 4 (.assign (kI 1))])
 (.ret))
 (.skip)))
 (.seq (.seq (rg [oO 41 (.fieldAddr 74 (tT 1) 2), oO 42 (.load 71 (tT 41)), oO 43 (cB .len #[tT 42] #[71]), oO 44 (.move (kI 0))])
 (.block 2 (.loop (.seq (rg [oO 45 (.binOp .lss 3 (tT 44) (tT 43) 3)])
 (.seq (.cond (tT 45) (.skip)
 (.exit 2))
 (.seq (.block 3 (.seq (rg [oO 46 (.move (tT 44)), oO 47 (.indexAddr 71 (tT 42) (tT 44)), oO 48 (.load 97 (tT 47)), oO 9 (.alloc 97), oO 8 (.assign (tT 46)), oN (.store 97 (tT 9) (tT 48))])
 (.seq (rg [oO 49 (.move (tT 8)), oO 50 (.fieldAddr 25 (tT 5) 2), oN (.store 3 (tT 50) (tT 49))])
 (.seq (.reg true [] [⟨⟨some 52, .load 25 (tT 5), none⟩, false, true⟩, ⟨⟨some 53, .fieldAddr 97 (tT 9) 2, none⟩, false, true⟩, ⟨⟨some 54, .load 3 (tT 53), none⟩, false, true⟩, ⟨⟨some 55, .fieldAddr 97 (tT 9) 3, none⟩, false, true⟩, ⟨⟨some 56, .load 26 (tT 55), none⟩, false, true⟩, ⟨⟨some 57, .fieldAddr 74 (tT 1) 3, none⟩, false, true⟩, ⟨⟨some 58, .load 72 (tT 57), none⟩, false, true⟩, ⟨⟨some 59, .move (tT 8), none⟩, false, true⟩, ⟨⟨some 60, .indexAddr 72 (tT 58) (tT 59), none⟩, false, true⟩, ⟨⟨some 61, .load 26 (tT 60), none⟩, false, true⟩, ⟨⟨some 62, cF (.func 15) #[tT 52, tT 54, tT 56, tT 61] #[25, 3, 26, 26], none⟩, false, true⟩, ⟨⟨some 51, .move (tT 62), none⟩, false, true⟩, ⟨⟨some 63, .extract (tT 51) 0, none⟩, false, true⟩, ⟨⟨some 64, .extract (tT 51) 1, none⟩, true, true⟩, ⟨⟨some 65, .extract (tT 51) 2, none⟩, true, true⟩, ⟨⟨some 10, .alloc 31, none⟩, true, false⟩, oN (.store 31 (tT 10) (tT 63)), oO 11 (.assign (tT 64)), oO 12 (.assign (tT 65))])
 (.seq (rg [oO 66 (.move (tT 12)), oO 67 (.binOp .neq 32 (tT 66) (kI 0) 32)])
 (.cond (tT 67) (.seq (rg [oO 68 (.move (tT 8)), oO 69 (.move (tT 11)), oO 70 (.move (tT 12)), oO 2 (.assign (tT 68)), oO 3 (.assign (tT 69)), oO 4 (.assign (tT 70))])
 (.ret))
 (.skip)))))))
 (rg [oO 71 (.binOp .add 3 (tT 44) (kI 1) 3), oO 44 (.move (tT 71))])))))))
 (.seq (rg [oO 2 (.assign (kI 0)), oO 3 (.assign (kI 0)), oO 4 (.assign (kI 0))])
 .ret))))))
theorem F38 : Fun1 Tryz.prog 38 72 c38 [.tmp 2, .tmp 3, .tmp 4] := mkT Tryz.func38 rfl (by decide +kernel) Tryz.ntmps38 rfl (by kernel_rfl) rfl
def c39 : AC :=
.seq (rg [oO 1 (.box 74 (tT 0)), oO 2 (.assign (kI 0)), oO 3 (.assign (kI 0)), oO 4 (.assign (kI 0))])
 (.seq (rg [oO 13 (.fieldAddr 74 (tT 1) 1), oO 14 (.load 22 (tT 13)), oO 15 (.build 25 #[(0, .tmp 14)]), oO 5 (.alloc 25), oN (.store 25 (tT 5) (tT 15))])
 (.seq (.seq (rg [oO 16 (.fieldAddr 74 (tT 1) 2), oO 17 (.load 71 (tT 16)), oO 18 (cB .len #[tT 17] #[71]), oO 19 (.move (kI 0))])
 (.block 0 (.loop (.seq (rg [oO 20 (.binOp .lss 3 (tT 19) (tT 18) 3)])
 (.seq (.cond (tT 20) (.skip)
 (.exit 0))
 (.seq (.block 1 (.seq (rg [oO 21 (.indexAddr 71 (tT 17) (tT 19)), oO 22 (.load 97 (tT 21)), oO 7 (.alloc 97), oN (.store 97 (tT 7) (tT 22))])
 (rg [oO 23 (.fieldAddr 25 (tT 5) 1), oO 24 (.load 23 (tT 23)), oO 25 (.fieldAddr 97 (tT 7) 1), oO 26 (.load 95 (tT 25)), oO 27 (.buildSlice 23 1 #[(0, .tmp 26)]), oO 28 (cB .append #[tT 24, tT 27] #[23, 23]), oO 29 (.fieldAddr 25 (tT 5) 1), oN (.store 23 (tT 29) (tT 28))])))
 (rg [oO 30 (.binOp .add 3 (tT 19) (kI 1) 3), oO 19 (.move (tT 30))])))))))
 (.seq (.seq (rg [oO 31 (.load 25 (tT 5)), oO 32 (cF (.func 58) #[tT 31] #[25]), oO 33 (.unOp .not 4 (tT 32)), oO 34 (.move (tT 33)), oG 35 (.fieldAddr 74 (tT 1) 3) 34 false, oG 36 (.load 72 (tT 35)) 34 false, oG 37 (cB .len #[tT 36] #[72]) 34 false, oG 38 (.fieldAddr 74 (tT 1) 2) 34 false, oG 39 (.load 71 (tT 38)) 34 false, oG 40 (cB .len #[tT 39] #[71]) 34 false, oG 41 (.binOp .neq 3 (tT 37) (tT 40) 3) 34 false, oO 42 (.pick (tT 34) (.const (.bool true)) (tT 41))])
 (.cond (tT 42) (.seq (rg [oO 2 (.assign (kI 0)), oO 3 (.assign (kI 0)), oO 4 (.assign (kI 1))])
 (.ret))
 (.skip)))
 (.seq (.seq (rg [oO 43 (.fieldAddr 74 (tT 1) 2), oO 44 (.load 71 (tT 43)), oO 45 (cB .len #[tT 44] #[71]), oO 46 (.move (kI 0))])
 (.block 2 (.loop (.seq (rg [oO 47 (.binOp .lss 3 (tT 46) (tT 45) 3)])
 (.seq (.cond (tT 47) (.skip)
 (.exit 2))
 (.seq (.block 3 (.seq (rg [oO 48 (.move (tT 46)), oO 49 (.indexAddr 71 (tT 44) (tT 46)), oO 50 (.load 97 (tT 49)), oO 9 (.alloc 97), oO 8 (.assign (tT 48)), oN (.store 97 (tT 9) (tT 50))])
 (.seq (rg [oO 51 (.move (tT 8)), oO 52 (.fieldAddr 25 (tT 5) 2), oN (.store 3 (tT 52) (tT 51))])
 (.seq (.reg true [] [⟨⟨some 54, .load 25 (tT 5), none⟩, false, true⟩, ⟨⟨some 55, .fieldAddr 97 (tT 9) 2, none⟩, false, true⟩, ⟨⟨some 56, .load 3 (tT 55), none⟩, false, true⟩, ⟨⟨some 57, .fieldAddr 97 (tT 9) 3, none⟩, false, true⟩, ⟨⟨some 58, .load 26 (tT 57), none⟩, false, true⟩, ⟨⟨some 59, .fieldAddr 74 (tT 1) 3, none⟩, false, true⟩, ⟨⟨some 60, .load 72 (tT 59), none⟩, false, true⟩, ⟨⟨some 61, .move (tT 8), none⟩, false, true⟩, ⟨⟨some 62, .indexAddr 72 (tT 60) (tT 61), none⟩, false, true⟩, ⟨⟨some 63, .load 26 (tT 62), none⟩, false, true⟩, ⟨⟨some 64, cF (.func 18) #[tT 54, tT 56, tT 58, tT 63] #[25, 3, 26, 26], none⟩, false, true⟩, ⟨⟨some 53, .move (tT 64), none⟩, false, true⟩, ⟨⟨some 65, .extract (tT 53) 0, none⟩, false, true⟩, ⟨⟨some 66, .extract (tT 53) 1, none⟩, true, true⟩, ⟨⟨some 67, .extract (tT 53) 2, none⟩, true, true⟩, ⟨⟨some 10, .alloc 31, none⟩, true, false⟩, oN (.store 31 (tT 10) (tT 65)), oO 11 (.assign (tT 66)), oO 12 (.assign (tT 67))])
 (.seq (rg [oO 68 (.move (tT 12)), oO 69 (.binOp .neq 32 (tT 68) (kI 0) 32)])
 (.cond (tT 69) (.seq (rg [oO 70 (.move (tT 8)), oO 71 (.move (tT 11)), oO 72 (.move (tT 12)), oO 2 (.assign (tT 70)), oO 3 (.assign (tT 71)), oO 4 (.assign (tT 72))])
 (.ret))
 (.skip)))))))
 (rg [oO 73 (.binOp .add 3 (tT 46) (kI 1) 3), oO 46 (.move (tT 73))])))))))
 (.seq (rg [oO 2 (.assign (kI 0)), oO 3 (.assign (kI 0)), oO 4 (.assign (kI 0))])
 .ret)))))
theorem F39 : Fun1 Tryz.prog 39 74 c39 [.tmp 2, .tmp 3, .tmp 4] := mkT Tryz.func39 rfl (by decide +kernel) Tryz.ntmps39 rfl (by kernel_rfl) rfl
def c40 : AC :=
.seq (rg [oO 2 (.box 74 (tT 0)), oO 3 (.box 74 (tT 1)), oO 4 (.assign (.const (.bool false)))])
 (.seq (.seq (rg [oO 7 (.fieldAddr 74 (tT 2) 0), oO 8 (.load 9 (tT 7)), oO 9 (.fieldAddr 74 (tT 3) 0), oO 10 (.load 9 (tT 9)), oO 11 (.binOp .neq 9 (tT 8) (tT 10) 9), oO 12 (.move (tT 11)), oG 13 (.fieldAddr 74 (tT 2) 1) 12 false, oG 14 (.load 22 (tT 13)) 12 false, oG 15 (.fieldAddr 74 (tT 3) 1) 12 false, oG 16 (.load 22 (tT 15)) 12 false, oG 17 (cF (.func 70) #[tT 14, tT 16] #[22, 22]) 12 false, oG 18 (.unOp .not 4 (tT 17)) 12 false, oO 19 (.pick (tT 12) (.const (.bool true)) (tT 18)), oO 20 (.move (tT 19)), oG 21 (.fieldAddr 74 (tT 2) 2) 20 false, oG 22 (.load 71 (tT 21)) 20 false, oG 23 (cB .len #[tT 22] #[71]) 20 false, oG 24 (.fieldAddr 74 (tT 3) 2) 20 false, oG 25 (.load 71 (tT 24)) 20 false, oG 26 (cB .len #[tT 25] #[71]) 20 false, oG 27 (.binOp .neq 3 (tT 23) (tT 26) 3) 20 false, oO 28 (.pick (tT 20) (.const (.bool true)) (tT 27)), oO 29 (.move (tT 28)), oG 30 (.fieldAddr 74 (tT 2) 3) 29 false, oG 31 (.load 72 (tT 30)) 29 false, oG 32 (cB .len #[tT 31] #[72]) 29 false, oG 33 (.fieldAddr 74 (tT 3) 3) 29 false, oG 34 (.load 72 (tT 33)) 29 false, oG 35 (cB .len #[tT 34] #[72]) 29 false, oG 36 (.binOp .neq 3 (tT 32) (tT 35) 3) 29 false, oO 37 (.pick (tT 29) (.const (.bool true)) (tT 36))])
 (.cond (tT 37) (.seq (rg [oO 4 (.assign (.const (.bool false)))])
 (.ret))
 (.skip)))
 (.seq (.seq (rg [oO 38 (.fieldAddr 74 (tT 2) 2), oO 39 (.load 71 (tT 38)), oO 40 (cB .len #[tT 39] #[71]), oO 41 (.move (kI 0))])
 (.block 0 (.loop (.seq (rg [oO 42 (.binOp .lss 3 (tT 41) (tT 40) 3)])
 (.seq (.cond (tT 42) (.skip)
 (.exit 0))
 (.seq (.block 1 (.seq (rg [oO 43 (.move (tT 41)), oO 5 (.assign (tT 43))])
 (.seq (.reg true [] [⟨⟨some 44, .fieldAddr 74 (tT 2) 2, none⟩, false, true⟩, ⟨⟨some 45, .load 71 (tT 44), none⟩, false, true⟩, ⟨⟨some 46, .move (tT 5), none⟩, false, true⟩, ⟨⟨some 47, .indexAddr 71 (tT 45) (tT 46), none⟩, false, true⟩, ⟨⟨some 48, .load 97 (tT 47), none⟩, false, true⟩, ⟨⟨some 49, .fieldAddr 74 (tT 3) 2, none⟩, false, true⟩, ⟨⟨some 50, .load 71 (tT 49), none⟩, false, true⟩, oO 51 (.move (tT 5)), oO 52 (.indexAddr 71 (tT 50) (tT 51)), oO 53 (.load 97 (tT 52)), oO 54 (cF (.func 78) #[tT 48, tT 53] #[97, 97]), oO 55 (.unOp .not 4 (tT 54))])
 (.cond (tT 55) (.seq (rg [oO 4 (.assign (.const (.bool false)))])
 (.ret))
 (.skip)))))
 (rg [oO 56 (.binOp .add 3 (tT 41) (kI 1) 3), oO 41 (.move (tT 56))])))))))
 (.seq (.seq (rg [oO 57 (.fieldAddr 74 (tT 2) 3), oO 58 (.load 72 (tT 57)), oO 59 (cB .len #[tT 58] #[72]), oO 60 (.move (kI 0))])
 (.block 2 (.loop (.seq (rg [oO 61 (.binOp .lss 3 (tT 60) (tT 59) 3)])
 (.seq (.cond (tT 61) (.skip)
 (.exit 2))
 (.seq (.block 3 (.seq (rg [oO 62 (.move (tT 60)), oO 6 (.assign (tT 62))])
 (.seq (.reg true [] [⟨⟨some 63, .fieldAddr 74 (tT 2) 3, none⟩, false, true⟩, ⟨⟨some 64, .load 72 (tT 63), none⟩, false, true⟩, ⟨⟨some 65, .move (tT 6), none⟩, false, true⟩, ⟨⟨some 66, .indexAddr 72 (tT 64) (tT 65), none⟩, false, true⟩, ⟨⟨some 67, .load 26 (tT 66), none⟩, false, true⟩, ⟨⟨some 68, .fieldAddr 74 (tT 3) 3, none⟩, false, true⟩, ⟨⟨some 69, .load 72 (tT 68), none⟩, false, true⟩, oO 70 (.move (tT 6)), oO 71 (.indexAddr 72 (tT 69) (tT 70)), oO 72 (.load 26 (tT 71)), oO 73 (cF (.func 45) #[tT 67, tT 72] #[26, 26]), oO 74 (.unOp .not 4 (tT 73))])
 (.cond (tT 74) (.seq (rg [oO 4 (.assign (.const (.bool false)))])
 (.ret))
 (.skip)))))
 (rg [oO 75 (.binOp .add 3 (tT 60) (kI 1) 3), oO 60 (.move (tT 75))])))))))
 (.seq (rg [oO 4 (.assign (.const (.bool true)))])
 .ret))))
theorem F40 : Fun1 Tryz.prog 40 76 c40 [.tmp 4] := mkT Tryz.func40 rfl (by decide +kernel) Tryz.ntmps40 rfl (by kernel_rfl) rfl
def c9 : AC :=
.seq (rg [oO 1 (.box 74 (tT 0)), oO 2 (.assign (.const (.bool false)))])
 (.seq (rg [oO 10 (.load 74 (tT 1)), oO 11 (cF (.func 37) #[tT 10] #[74]), oO 3 (.alloc 74), oN (.store 74 (tT 3) (tT 11))])
 (.seq (rg [oO 13 (.load 74 (tT 3)), oO 14 (cF (.func 38) #[tT 13] #[74]), oO 12 (.move (tT 14)), oO 15 (.extract (tT 12) 0), oO 16 (.extract (tT 12) 1), oO 17 (.extract (tT 12) 2), oO 4 (.assign (tT 15)), oO 5 (.assign (tT 16)), oO 6 (.assign (tT 17))])
 (.seq (rg [oO 19 (.load 74 (tT 1)), oO 20 (cF (.func 39) #[tT 19] #[74]), oO 18 (.move (tT 20)), oO 21 (.extract (tT 18) 0), oO 22 (.extract (tT 18) 1), oO 23 (.extract (tT 18) 2), oO 7 (.assign (tT 21)), oO 8 (.assign (tT 22)), oO 9 (.assign (tT 23))])
 (.seq (rg [oO 24 (.move (tT 4)), oO 25 (.move (tT 7)), oO 26 (.binOp .eql 3 (tT 24) (tT 25) 3), oO 27 (.move (tT 26)), oG 28 (.move (tT 5)) 27 true, oG 29 (.move (tT 8)) 27 true, oG 30 (.binOp .eql 3 (tT 28) (tT 29) 3) 27 true, oO 31 (.pick (tT 27) (tT 30) (.const (.bool false))), oO 32 (.move (tT 31)), oG 33 (.move (tT 6)) 32 true, oG 34 (.move (tT 9)) 32 true, oG 35 (.binOp .eql 32 (tT 33) (tT 34) 32) 32 true, oO 36 (.pick (tT 32) (tT 35) (.const (.bool false))), oO 37 (.move (tT 36)), oG 38 (.load 74 (tT 3)) 37 true, oG 39 (.load 74 (tT 1)) 37 true, oG 40 (cF (.func 40) #[tT 38, tT 39] #[74, 74]) 37 true, oO 41 (.pick (tT 37) (tT 40) (.const (.bool false))), oO 2 (.assign (tT 41))])
 .ret))))
theorem F9 : Fun1 Tryz.prog 9 42 c9 [.tmp 2] := mkT Tryz.func9 rfl (by decide +kernel) Tryz.ntmps9 rfl (by kernel_rfl) rfl
structure Fn' where
  name : ByteArray
  sg : Sg
  loc : Int
  code : List Ty
def eFn (f : Fn') : List D := .str f.name :: (eSg f.sg ++ [.int .i64 f.loc, .slice .no (rws eT f.code)])
theorem eFn_eq (f : Fn') : eFn f = [.str f.name, .slice .no (rws eT f.sg.ps), .int .u8 f.sg.r.val, .int .i64 f.loc, .slice .no (rws eT f.code)] := rfl
theorem eFn_len (f : Fn') : (eFn f).length = 5 := rfl
theorem eFn_frz (f : Fn') : (eFn f).map frz = eFn f := rfl
theorem eFn_take (f : Fn') : (eFn f).take 5 = eFn f := rfl
instance : DecidableEq Fn' := fun a b => by
  cases a; cases b
  simp only [Fn'.mk.injEq]
  exact inferInstance
def WideN (f : Fn') : Prop := f.sg.ps.length ≤ 140737488351232 ∧ f.code.length ≤ 140737488351232
theorem func76 (f : Fn') (hw : WideN f) : PCall Tryz.prog 76 [.agg (eFn f)] (.agg (eFn f)) := by
  obtain ⟨h1, h2⟩ := hw
  refine F76.pcall' rfl fun T hT => ?_
  simp -implicitDefEqProofs only [go_sem, c76, hT, eFn_eq]
  intro b1 b2 n1 n2
  simp -implicitDefEqProofs only [go_sem, hT, n1, n2]
  refine callB_pure (sig11 f.sg (by omega)) ?_
  simp -implicitDefEqProofs only [go_sem, hT, n1, n2, set_set, eSg]
  refine callB_pure (clone17p f.code .no (by simp [nilOk]) (by omega)) ?_
  simp -implicitDefEqProofs only [go_sem, hT, n1, n2, set_set, eSg]
theorem sameFunc78 (f g : Fn') (hw : WideN f) : PCall Tryz.prog 78 [.agg (eFn f), .agg (eFn g)] (.bool (decide (f = g))) := by
  obtain ⟨h1, h2⟩ := hw
  refine F78.pcall' rfl fun T hT => ?_
  simp -implicitDefEqProofs only [go_sem, c78, hT, eFn_eq]
  intro b1 b2 n1 n2
  by_cases e1 : f.name = g.name
  rotate_left
  · have p1 : (f.name = g.name) = False := eq_false e1
    simp -implicitDefEqProofs only [go_sem, hT, n1, n2, p1]
    exact DLe_bool (by symm; rw [decide_eq_false_iff_not]; rintro rfl; exact e1 rfl)
  have p1 : (f.name = g.name) = True := eq_true e1
  simp -implicitDefEqProofs only [go_sem, hT, n1, n2, p1]
  refine callB_pure (sameSig15 f.sg g.sg (by omega)) ?_
  by_cases e2 : f.sg = g.sg
  rotate_left
  · have p2 : (f.sg = g.sg) = False := eq_false e2
    simp -implicitDefEqProofs only [go_sem, hT, n1, n2, p1, p2]
    exact DLe_bool (by symm; rw [decide_eq_false_iff_not]; rintro rfl; exact e2 rfl)
  have p2 : (f.sg = g.sg) = True := eq_true e2
  by_cases e3 : f.loc = g.loc
  rotate_left
  · have p3 : (f.loc = g.loc) = False := eq_false e3
    simp -implicitDefEqProofs only [go_sem, hT, n1, n2, p1, p2, p3]
    exact DLe_bool (by symm; rw [decide_eq_false_iff_not]; rintro rfl; exact e3 rfl)
  have p3 : (f.loc = g.loc) = True := eq_true e3
  simp -implicitDefEqProofs only [go_sem, hT, n1, n2, p1, p2, p3]
  refine callB_pure (equal45 f.code g.code .no .no (by omega)) ?_
  simp -implicitDefEqProofs only [go_sem, hT, n1, n2, p1, p2, p3]
  refine DLe_bool ?_
  obtain ⟨fa, fb, fc, fd⟩ := f
  obtain ⟨ga, gb, gc, gd⟩ := g
  simp only at e1 e2 e3
  simp [e1, e2, e3]
structure Md where
  name : ByteArray
  cs : List Cl
  fs : List Fn'
  certs : List (List Ty)
def eBy (c : List Ty) : List D := [.slice .no (rws eT c)]
def eMd (m : Md) : List D := [.str m.name, .slice .no (rws eC m.cs), .slice .no (rws eFn m.fs), .slice .no (rws eBy m.certs)]
theorem eMd_len (m : Md) : (eMd m).length = 4 := rfl
theorem eMd_take (m : Md) : (eMd m).take 4 = eMd m := rfl
def WideM (m : Md) : Prop := Wide m.cs ∧ m.fs.length * 80 ≤ 140737488351232 ∧ (∀ f ∈ m.fs, WideN f) ∧ m.certs.length * 24 ≤ 140737488351232 ∧ ∀ c ∈ m.certs, c.length ≤ 140737488351232
def mdB (b1 b2 b3 : Nat) (m : Md) (i j : Nat) (o1 o2 : Option Nat) : St :=
  ((({} : St).set b1 (eMd m)).set b2 [.str ByteArray.empty, .slice .nil [], .slice .nil [], .slice .nil []]).set b3 [.str m.name, .slice .no (rws eC m.cs), grD 5 o1 (rws eFn (m.fs.take i)), grD 1 o2 (rws eBy (m.certs.take j))]
theorem module37 (m : Md) (hw : WideM m) : PCall Tryz.prog 37 [.agg (eMd m)] (.agg (eMd m)) := by
  obtain ⟨hw1, hw2, hw3, hw4, hw5⟩ := hw
  refine F37.pcall' rfl fun T hT => ?_
  simp -implicitDefEqProofs only [go_sem, c37, hT, eMd]
  intro b1 b2 h1 h2
  simp -implicitDefEqProofs only [go_sem, hT, eMd, h1, h2]
  refine ⟨by rintro b rfl; simp, callB_pure (classes63 m.cs .no hw1) ?_⟩
  simp -implicitDefEqProofs only [go_sem, hT, eMd, h1, h2]
  intro b3 n1 n2 n3 n4
  simp -implicitDefEqProofs only [go_sem, hT, eMd, h1, h2, n1, n2, n3, n4, set_set]
  refine loopL F37 (fun x : Nat × Option Nat => [(1, .ptr b1 0), (2, .ptr b2 0), (3, .ptr b3 0), (15, .slice .no (rws eFn m.fs)), (16, .int .i64 m.fs.length), (17, .int .i64 x.1)]) (fun x => grS 5 x.1 x.2 (mdB b1 b2 b3 m x.1 0 x.2 none))
    (fun x => x.1 ≤ m.fs.length ∧ (x.2 = none → x.1 = 0) ∧ grN x.2 (mdB b1 b2 b3 m x.1 0 x.2 none)) (fun x => m.fs.length - x.1) (0, none)
    ⟨Nat.zero_le _, fun _ => rfl, grN_none⟩ ?_ (St.le.refl _) ?_
  · simp -implicitDefEqProofs only [go_sem, hT, Int.ofNat_zero]
  clear hT T
  rintro ⟨i, ob⟩ ⟨hi, hok, hgr⟩ T hT
  simp only at hi hok hgr hT ⊢
  have k3 : (mdB b1 b2 b3 m i 0 ob none).box b3 = some [.str m.name, .slice .no (rws eC m.cs), grD 5 ob (rws eFn (m.fs.take i)), .slice .nil []] := by simp [mdB, grS_boxa, St.set_box, grD, rws]
  by_cases h : i < m.fs.length
  · have h3 : ((i : Int) < m.fs.length) = True := eq_true (by omega)
    have h0 : (0 ≤ (i : Int)) = True := eq_true (by omega)
    have hwf := hw3 m.fs[i] (by simp)
    have htake : m.fs.take (i + 1) = m.fs.take i ++ [m.fs[i]] := List.take_succ_eq_append_getElem h
    have hR : (rws eFn m.fs)[i]?.getD [] = eFn m.fs[i] := rws_at h
    have htl : (m.fs.take i).length = i := by simp; omega
    generalize m.fs[i] = x at *
    simp -implicitDefEqProofs only [go_sem, hT, h3, h0, hR, eFn_len, eFn_take, Int.toNat_natCast]
    intro b5 hb5
    have f3 : ¬ b3 = b5 := fun he => by subst he; exact hb5 (.inl (by rw [grS_boxa, k3]; simp))
    simp -implicitDefEqProofs only [go_sem, hT, f3, k3, set_set, eFn_len, eFn_take]
    refine ⟨by rintro b rfl; simp [k3], ?_⟩
    refine callB_pure (func76 x hwf) ?_
    simp -implicitDefEqProofs only [go_sem, hT, f3, k3, set_set, eFn_len, eFn_take, eFn_frz]
    refine app_gr' Tryz.sli71 Tryz.sz97 Tryz.by97 Tryz.zero97 rfl (n := i) (m := 1) (base := mdB b1 b2 b3 m i 0 ob none) (by rw [rws_len, htl]) rfl (le_add hb5) hgr hok (by simp [eFn_len]) (by omega) fun o' σ' hbox hle hn hno => ?_
    simp -implicitDefEqProofs only [go_sem, hT, hbox, f3, k3, set_set]
    have hle' := le_set (b := b3) (cs := [.str m.name, .slice .no (rws eC m.cs), grD 5 o' (rws eFn (m.fs.take i) ++ [eFn x]), .slice .nil []]) hle
    rw [grS_set, mdB, set_set] at hle'
    have happ : rws eFn (m.fs.take i) ++ [eFn x] = rws eFn (m.fs.take (i + 1)) := by rw [htake]; simp [rws]
    rw [happ] at hle' ⊢
    refine ⟨(i + 1, o'), ⟨by omega, by simpa using hno, fun b hb hin => hn b hb ?_⟩, by omega, ?_, hle'⟩
    · simp only [mdB, has_set] at hin ⊢; exact hin
    · rw [wrap_i64 (by omega) (by omega)]; simp
  have h3 : ((i : Int) < m.fs.length) = False := eq_false (by omega)
  obtain rfl : i = m.fs.length := by omega
  have hne2 : b2 ≠ b3 := n2
  have k1 : (mdB b1 b2 b3 m m.fs.length 0 ob none).box b1 = some (eMd m) := by simp [mdB, St.set_box, h1, h2, n1, n2, n3, n4]
  simp -implicitDefEqProofs only [go_sem, hT, h3, k3, k1, eMd]
  clear k1 k3 h3 h hi hok
  have hfull : m.fs.take m.fs.length = m.fs := List.take_of_length_le (by omega)
  have hgr1 : ∀ j o2, grN ob (mdB b1 b2 b3 m m.fs.length j ob o2) := fun j o2 b hb hin => hgr b hb (by simp only [mdB, has_set] at hin ⊢; exact hin)
  refine loopL F37 (fun x : Nat × Option Nat => [(1, .ptr b1 0), (2, .ptr b2 0), (3, .ptr b3 0), (30, .slice .no (rws eBy m.certs)), (31, .int .i64 m.certs.length), (32, .int .i64 x.1)]) (fun x => grS 1 x.1 x.2 (grS 5 m.fs.length ob (mdB b1 b2 b3 m m.fs.length x.1 ob x.2)))
    (fun x => x.1 ≤ m.certs.length ∧ (x.2 = none → x.1 = 0) ∧ grN x.2 (grS 5 m.fs.length ob (mdB b1 b2 b3 m m.fs.length x.1 ob x.2))) (fun x => m.certs.length - x.1) (0, none)
    ⟨Nat.zero_le _, fun _ => rfl, grN_none⟩ ?_ (St.le.refl _) ?_
  · simp -implicitDefEqProofs only [go_sem, hT, Int.ofNat_zero]
  clear hT T hgr
  rintro ⟨j, o2⟩ ⟨hj, hok, hgr⟩ T hT
  simp only at hj hok hgr hT ⊢
  have k3 : (mdB b1 b2 b3 m m.fs.length j ob o2).box b3 = some [.str m.name, .slice .no (rws eC m.cs), grD 5 ob (rws eFn (m.fs.take m.fs.length)), grD 1 o2 (rws eBy (m.certs.take j))] := by simp [mdB, St.set_box]
  by_cases h : j < m.certs.length
  · have h3 : ((j : Int) < m.certs.length) = True := eq_true (by omega)
    have h0 : (0 ≤ (j : Int)) = True := eq_true (by omega)
    have hwf := hw5 m.certs[j] (by simp)
    have htake : m.certs.take (j + 1) = m.certs.take j ++ [m.certs[j]] := List.take_succ_eq_append_getElem h
    have hR : (rws eBy m.certs)[j]?.getD [] = [.slice .no (rws eT m.certs[j])] := by rw [rws_at h]; rfl
    have htl : (m.certs.take j).length = j := by simp; omega
    generalize m.certs[j] = x at *
    simp -implicitDefEqProofs only [go_sem, hT, h3, h0, hR, Int.toNat_natCast, k3]
    trace_state
    refine ⟨by rintro b rfl; simp [k3], ?_⟩
    refine callB_pure (clone17p x .no (by simp [nilOk]) (by omega)) ?_
    simp -implicitDefEqProofs only [go_sem, hT, k3, set_set, frz]
    refine app_gr' Tryz.sli72 Tryz.sz26 Tryz.by26 Tryz.zero26 rfl (n := j) (m := 1) (base := grS 5 m.fs.length ob (mdB b1 b2 b3 m m.fs.length j ob o2)) (by rw [rws_len, htl]) rfl (St.le.refl _) hgr hok (by simp) (by omega) fun o' σ' hbox hle hn hno => ?_
    simp -implicitDefEqProofs only [go_sem, hT, hbox, k3, set_set]
    have hle' := le_set (b := b3) (cs := [.str m.name, .slice .no (rws eC m.cs), grD 5 ob (rws eFn (m.fs.take m.fs.length)), grD 1 o' (rws eBy (m.certs.take j) ++ [[.slice .no (rws eT x)]])]) hle
    rw [grS_set, grS_set, mdB, set_set] at hle'
    have happ : rws eBy (m.certs.take j) ++ [[.slice .no (rws eT x)]] = rws eBy (m.certs.take (j + 1)) := by rw [htake]; simp [rws, eBy]
    rw [happ] at hle' ⊢
    refine ⟨(j + 1, o'), ⟨by omega, by simpa using hno, fun b hb hin => hn b hb ?_⟩, by omega, ?_, hle'⟩
    · rw [grS_has] at hin ⊢
      simp only [mdB, has_set] at hin ⊢; exact hin
    · rw [wrap_i64 (by omega) (by omega)]; simp
  have h3 : ((j : Int) < m.certs.length) = False := eq_false (by omega)
  obtain rfl : j = m.certs.length := by omega
  have k2 : (mdB b1 b2 b3 m m.fs.length m.certs.length ob o2).box b2 = some [.str ByteArray.empty, .slice .nil [], .slice .nil [], .slice .nil []] := by simp [mdB, St.set_box, hne2]
  simp -implicitDefEqProofs only [go_sem, hT, h3, k3, k2]
  rw [hfull, List.take_of_length_le (Nat.le_refl _)]
  exact DLe.agg (.cons (.refl _) (.cons (.refl _) (.cons grD_le (.cons grD_le .nil))))
theorem sameModule40 (m : Md) (hw : WideM m) : PCall Tryz.prog 40 [.agg (eMd m), .agg (eMd m)] (.bool true) := by
  obtain ⟨hw1, hw2, hw3, hw4, hw5⟩ := hw
  have e1 : (m.name = m.name) = True := eq_true rfl
  have e2 : ((m.fs.length : Int) = m.fs.length) = True := eq_true rfl
  have e3 : ((m.certs.length : Int) = m.certs.length) = True := eq_true rfl
  refine F40.pcall' rfl fun T hT => ?_
  simp -implicitDefEqProofs only [go_sem, c40, hT, eMd]
  intro b2 b3 n1 n2
  simp -implicitDefEqProofs only [go_sem, hT, n1, n2, e1]
  refine callB_pure (sameClasses26 m.cs m.cs .no .no hw1) ?_
  simp -implicitDefEqProofs only [go_sem, hT, n1, n2, e1, e2, e3, decide_true, Bool.not_true]
  have k2 : ((({} : St).set b2 (eMd m)).set b3 (eMd m)).box b2 = some (eMd m) := by simp [St.set_box, n1, n2]
  have k3 : ((({} : St).set b2 (eMd m)).set b3 (eMd m)).box b3 = some (eMd m) := by simp [St.set_box]
  obtain ⟨S, hS⟩ : ∃ S, (({} : St).set b2 (eMd m)).set b3 (eMd m) = S := ⟨_, rfl⟩
  have hS' : (({} : St).set b2 [.str m.name, .slice .no (rws eC m.cs), .slice .no (rws eFn m.fs), .slice .no (rws eBy m.certs)]).set b3 [.str m.name, .slice .no (rws eC m.cs), .slice .no (rws eFn m.fs), .slice .no (rws eBy m.certs)] = S := hS
  rw [hS] at k2 k3
  rw [hS']
  clear hS hS'
  refine loopL F40 (fun i : Nat => [(2, .ptr b2 0), (3, .ptr b3 0), (40, .int .i64 m.fs.length), (41, .int .i64 i)]) (fun _ => S) (fun i => i ≤ m.fs.length) (fun i => m.fs.length - i) 0
    (Nat.zero_le _) ?_ (St.le.refl _) ?_
  · simp -implicitDefEqProofs only [go_sem, hT, Int.ofNat_zero]
  clear hT T
  rintro i hi T hT
  by_cases h : i < m.fs.length
  · have h3 : ((i : Int) < m.fs.length) = True := eq_true (by omega)
    have h0 : (0 ≤ (i : Int)) = True := eq_true (by omega)
    have hwf := hw3 m.fs[i] (by simp)
    have hR : (rws eFn m.fs)[i]?.getD [] = eFn m.fs[i] := rws_at h
    generalize m.fs[i] = x at *
    simp -implicitDefEqProofs only [go_sem, hT, h3, h0, k2, k3, eMd, hR, eFn_len, eFn_take, Int.toNat_natCast]
    refine callB_pure (sameFunc78 x x hwf) ?_
    simp -implicitDefEqProofs only [go_sem, hT, decide_true, Bool.not_true]
    exact ⟨i + 1, by omega, by omega, by rw [wrap_i64 (by omega) (by omega)]; simp, St.le.refl _⟩
  have h3 : ((i : Int) < m.fs.length) = False := eq_false (by omega)
  simp -implicitDefEqProofs only [go_sem, hT, h3, k2, k3, eMd]
  clear h h3 hi
  refine loopL F40 (fun i : Nat => [(2, .ptr b2 0), (3, .ptr b3 0), (59, .int .i64 m.certs.length), (60, .int .i64 i)]) (fun _ => S) (fun i => i ≤ m.certs.length) (fun i => m.certs.length - i) 0
    (Nat.zero_le _) ?_ (St.le.refl _) ?_
  · simp -implicitDefEqProofs only [go_sem, hT, Int.ofNat_zero]
  clear hT T i
  rintro i hi T hT
  by_cases h : i < m.certs.length
  · have h3 : ((i : Int) < m.certs.length) = True := eq_true (by omega)
    have h0 : (0 ≤ (i : Int)) = True := eq_true (by omega)
    have hwf := hw5 m.certs[i] (by simp)
    have hR : (rws eBy m.certs)[i]?.getD [] = [.slice .no (rws eT m.certs[i])] := by rw [rws_at h]; rfl
    generalize m.certs[i] = x at *
    simp -implicitDefEqProofs only [go_sem, hT, h3, h0, k2, k3, eMd, hR, Int.toNat_natCast]
    refine callB_pure (equal45 x x .no .no (by omega)) ?_
    simp -implicitDefEqProofs only [go_sem, hT, decide_true, Bool.not_true]
    exact ⟨i + 1, by omega, by omega, by rw [wrap_i64 (by omega) (by omega)]; simp, St.le.refl _⟩
  have h3 : ((i : Int) < m.certs.length) = False := eq_false (by omega)
  simp -implicitDefEqProofs only [go_sem, hT, h3]
def envM (m : Md) (k : Int) : En := ⟨m.cs, m.fs.map (·.sg), k⟩
def runM (m : Md) : List (Fn' × List Ty) → Nat → Nat × Int × Nat
  | [], _ => (0, 0, 0)
  | (f, c) :: r, k => if (checkD (envM m k) f.loc f.code c).2.2 ≠ 0 then (k, (checkD (envM m k) f.loc f.code c).2.1, (checkD (envM m k) f.loc f.code c).2.2) else runM m r (k + 1)
def moduleD (m : Md) : Nat × Int × Nat := if m.certs.length ≠ m.fs.length ∨ canB (envM m 0) = false then (0, 0, 1) else runM m (m.fs.zip m.certs) 0
theorem may16 (e : En) : (mayE e 16 = 0) = (canB e = true) := by
  rw [eq_iff_iff]
  constructor
  · intro h
    cases hc : canB e with
    | true => rfl
    | false => exact absurd h ((may_can e 16).2 (.inl hc))
  · intro hc
    by_cases h : mayE e 16 = 0
    · exact h
    · rcases (may_can e 16).1 h with h | h | h
      · rw [hc] at h; cases h
      · obtain ⟨_, _, _, h8, _⟩ := can_sig hc
        omega
      · omega
theorem envM_wide {m : Md} (hw : WideM m) (k : Int) : WideE (envM m k) := by
  obtain ⟨hw1, hw2, hw3, hw4, hw5⟩ := hw
  refine ⟨hw1, by simp only [envM, List.length_map]; omega, fun s hs => ?_⟩
  simp only [envM, List.mem_map] at hs
  obtain ⟨f, hf, rfl⟩ := hs
  exact (hw3 f hf).1
end Go.AL
