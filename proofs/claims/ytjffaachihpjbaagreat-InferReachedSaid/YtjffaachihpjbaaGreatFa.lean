import Derived.Calls
import Derived.Orders
import Derived.Tactics
import Derived.KernelRfl
import Derived.Laws.Cells
import Derived.Laws.Slices
import Derived.Laws.Strings
import Derived.Laws.Append
import Derived.Laws.Rows
import Derived.Laws.StructEq
import Derived.ChangeKeysEq
import Derived.Laws.Concat
import Derived.Laws.Small
import Derived.Laws.AppendOwn
set_option linter.unusedSectionVars false
set_option linter.unusedVariables false
set_option linter.unusedSimpArgs false
namespace Go.AL
inductive Own where
 |no|nil|exact|buf (b size:Nat)
inductive D where
 |any
 |bool (b:Bool)|int (k:IntKind) (n:Int)|str (s:ByteArray)
 |nilptr|ptr (b off:Nat)|eptr (cs:List D)
 |slice (o:Own) (es:List (List D))
 |bsl (b off len cap:Nat)
 |nilfunc|func (fn:Fn) (first captured:List D)
 |niliface|iface (t:TypeId) (d:D)
 |agg (cs:List D)|tup (ds:List D)
 |roomy (b size room:Nat) (es:List (List D))
 |nilmap|map (b:Nat)
inductive MK where
 |box|buf (lim:Nat)
abbrev MMap:=Nat→Option MK
def ImmAt (M:MMap) (b off:Nat):Prop:=
 match M b with
 |none=>True
 |some .box=>False
 |some (.buf lim)=>off<lim
mutual
def Rep (M:MMap) (w:World):D→Value→Prop
 | .any,_=>True
 | .bool b,v=>v= .bool b
 | .int k n,v=>v= .int k n
 | .str s,v=>v= .string s
 | .nilptr,v=>v= .pointer none
 | .ptr b off,v=>v= .pointer (some ⟨b,off,none⟩)
 | .eptr cs,v=>∃b off,v= .pointer (some ⟨b,off,none⟩)∧RepCells M w cs b off
 | .slice o es,v=>match o with
  | .nil=>v= .slice none 0 0∧es=[]
  | .exact=>∃b off size,v= .slice (some ⟨b,off,none⟩) es.length es.length∧RepRows M w es b off size
  | .no=>(v= .slice none 0 0∧es=[])∨(∃b off cap size,v= .slice (some ⟨b,off,none⟩) es.length cap∧es.length≤cap∧RepRows M w es b off size)∨∃a cap,v= .slice (some a) 0 cap∧es=[]
  | .buf b size=>∃cap c e f,v= .slice (some ⟨b,0,none⟩) es.length cap∧es.length≤cap∧RepRows M w es b 0 size∧w.heap[b]? =some (.cells c e f)∧c.size=cap*size∧M b≠some .box
 | .bsl b off len cap,v=>v= .slice (some ⟨b,off,none⟩) len cap
 | .nilfunc,v=>v= .nilFunc
 | .func fn fi ca,v=>∃vf vc,v= .func fn vf vc∧zf6 M w fi vf.toList∧zf6 M w ca vc.toList
 | .niliface,v=>v= .nilIface
 | .iface t d,v=>∃u,v= .iface t u∧Rep M w d u
 | .agg cs,v=>∃a,v= .agg a∧zf6 M w cs a.toList∧∀u∈a.toList,u.oneCell'=true
 | .tup ds,v=>∃a,v= .tuple a∧zf6 M w ds a.toList
 | .nilmap,v=>v= .map none
 | .map b,v=>v= .map (some b)
 | .roomy b size k es,v=>∃cap c e f,v= .slice (some ⟨b,0,none⟩) es.length cap∧es.length≤cap∧k≤cap∧RepRows M w es b 0 size∧w.heap[b]? =some (.cells c e f)∧c.size=cap*size∧M b≠some .box
def zf6 (M:MMap) (w:World):List D→List Value→Prop
 |[],vs=>vs=[]
 |d::ds,vs=>∃v vs',vs=v::vs'∧Rep M w d v∧zf6 M w ds vs'
def RepCells (M:MMap) (w:World):List D→Nat→Nat→Prop
 |[],_,_=>True
 |d::ds,b,off=>(∃v,w.cell? ⟨b,off,none⟩=some v∧v.oneCell'=true∧ImmAt M b off∧Rep M w d v)∧RepCells M w ds b (off+1)
def RepRows (M:MMap) (w:World):List (List D)→Nat→Nat→Nat→Prop
 |[],_,_,_=>True
 |e::es,b,off,size=>e.length=size∧RepCells M w e b off∧RepRows M w es b (off+size) size
end
structure Keep (M:MMap) (w:World) (M':MMap) (w':World):Prop where
 os:w'.os=w.os
 tape:w'.tape=w.tape
 output:w'.output=w.output
 size:w.heap.size≤w'.heap.size
 imm:∀b,b<w.heap.size→M b=none→M' b=none∧w'.heap[b]? =w.heap[b]?
 buf:∀b lim c e f,M b=some (.buf lim)→w.heap[b]? =some (.cells c e f)→
  (∃c',w'.heap[b]? =some (.cells c' e f)∧c'.size=c.size∧∀i,i<lim→c'[i]? =c[i]?)∧
  (M' b=none∨∃lim',lim≤lim'∧M' b=some (.buf lim'))
theorem Keep.refl (M:MMap) (w:World):Keep M w M w:=
 ⟨rfl,rfl,rfl,Nat.le_refl _,fun _ _ h=>⟨h,rfl⟩,fun _ lim c _ _ h hc=>⟨⟨c,hc,rfl,fun _ _=>rfl⟩,.inr ⟨lim,Nat.le_refl _,h⟩⟩⟩
theorem heap_lt {w:World} {b:Nat} {o:Obj} (h:w.heap[b]? =some o):b<w.heap.size:=
 (Array.getElem?_eq_some_iff.1 h).1
theorem Keep.trans {M M₁ M₂:MMap} {w w₁ w₂:World} (h:Keep M w M₁ w₁) (k:Keep M₁ w₁ M₂ w₂):Keep M w M₂ w₂:=by
 refine⟨k.os.trans h.os,k.tape.trans h.tape,k.output.trans h.output,Nat.le_trans h.size k.size,fun b hb hM=> ?_,fun b lim c e f hM hc=> ?_⟩
 ·obtain⟨h1,h2⟩:=h.imm b hb hM
  obtain⟨k1,k2⟩:=k.imm b (Nat.lt_of_lt_of_le hb h.size) h1
  exact⟨k1,k2.trans h2⟩
 ·obtain⟨⟨c₁,h1,h2,h3⟩,h4⟩:=h.buf b lim c e f hM hc
  rcases h4 with h4|⟨lim₁,h4,h5⟩
  ·obtain⟨k1,k2⟩:=k.imm b (heap_lt h1) h4
   exact⟨⟨c₁,k2.trans h1,h2,h3⟩,.inl k1⟩
  ·obtain⟨⟨c₂,k1,k2,k3⟩,k4⟩:=k.buf b lim₁ c₁ e f h5 h1
   refine⟨⟨c₂,k1,k2.trans h2,fun i hi=>(k3 i (Nat.lt_of_lt_of_le hi h4)).trans (h3 i hi)⟩, ?_⟩
   rcases k4 with k4|⟨lim₂,k4,k5⟩
   ·exact .inl k4
   ·exact .inr ⟨lim₂,Nat.le_trans h4 k4,k5⟩
theorem cell_some {w:World} {b off:Nat} {v:Value} (h:w.cell? ⟨b,off,none⟩=some v):∃c e f,w.heap[b]? =some (.cells c e f)∧c[off]? =some v:=by
 simp only[World.cell?] at h
 split at h
 ·rename_i c e f hc
  simp at h
  exact⟨c,e,f,hc,h⟩
 ·cases h
theorem cell_of {w:World} {b off:Nat} {v:Value} {c:Array Value} {e:TypeId} {f:Nat×Nat} (h:w.heap[b]? =some (.cells c e f)) (hv:c[off]? =some v):w.cell? ⟨b,off,none⟩=some v:=by
 simp[World.cell?,h,hv]
theorem Keep.cell {M M':MMap} {w w':World} (h:Keep M w M' w') {b off:Nat} {v:Value} (hc:w.cell? ⟨b,off,none⟩=some v) (hi:ImmAt M b off):
  w'.cell? ⟨b,off,none⟩=some v∧ImmAt M' b off:=by
 obtain⟨c,e,f,hh,hv⟩:=cell_some hc
 unfold ImmAt at hi
 cases hM:M b with
 |none=>
  obtain⟨h1,h2⟩:=h.imm b (heap_lt hh) hM
  exact⟨cell_of (h2.trans hh) hv,by simp[ImmAt,h1]⟩
 |some m=>
  cases m with
  |box=>simp[hM] at hi
  |buf lim=>
   simp[hM] at hi
   obtain⟨⟨c',h1,_,h3⟩,h4⟩:=h.buf b lim c e f hM hh
   refine⟨cell_of h1 ((h3 off hi).trans hv), ?_⟩
   rcases h4 with h4|⟨lim',h4,h5⟩
   ·simp[ImmAt,h4]
   ·simp only[ImmAt,h5]; omega
theorem Keep.notBox {M M':MMap} {w w':World} (h:Keep M w M' w') {b:Nat} {c:Array Value} {e:TypeId} {f:Nat×Nat} (hc:w.heap[b]? =some (.cells c e f)) (hM:M b≠some .box):
  (∃c',w'.heap[b]? =some (.cells c' e f)∧c'.size=c.size)∧M' b≠some .box:=by
 cases hb:M b with
 |none=>
  obtain⟨h1,h2⟩:=h.imm b (heap_lt hc) hb
  exact⟨⟨c,h2.trans hc,rfl⟩,by simp[h1]⟩
 |some m=>
  cases m with
  |box=>exact absurd hb hM
  |buf lim=>
   obtain⟨⟨c',h1,h2,_⟩,h4⟩:=h.buf b lim c e f hb hc
   refine⟨⟨c',h1,h2⟩, ?_⟩
   rcases h4 with h4|⟨lim',_,h5⟩
   ·simp[h4]
   ·simp[h5]
mutual
theorem Rep.keep {M M':MMap} {w w':World} (h:Keep M w M' w'):∀(d:D) (v:Value),Rep M w d v→Rep M' w' d v
 | .any,_,_=>trivial
 | .bool _,_,r=>r
 | .int _ _,_,r=>r
 | .str _,_,r=>r
 | .nilptr,_,r=>r
 | .ptr _ _,_,r=>r
 | .eptr cs,_,r=>by
  obtain⟨b,off,rfl,r⟩:=r
  exact⟨b,off,rfl,RepCells.keep h cs b off r⟩
 | .slice o es,v,r=>by
  cases o with
  |nil=>exact r
  |exact=>
   obtain⟨b,off,size,hv,r⟩:=r
   exact⟨b,off,size,hv,RepRows.keep h es b off size r⟩
  |no=>
   rcases r with r|⟨b,off,cap,size,hv,hl,r⟩|r
   ·exact .inl r
   ·exact .inr (.inl ⟨b,off,cap,size,hv,hl,RepRows.keep h es b off size r⟩)
   ·exact .inr (.inr r)
  |buf b size=>
   obtain⟨cap,c,e,f,hv,hl,r,hc,hs,hb⟩:=r
   obtain⟨⟨c',h1,h2⟩,h3⟩:=h.notBox hc hb
   exact⟨cap,c',e,f,hv,hl,RepRows.keep h es b 0 size r,h1,h2.trans hs,h3⟩
 | .bsl _ _ _ _,_,r=>r
 | .nilfunc,_,r=>r
 | .func fn fi ca,_,r=>by
  obtain⟨vf,vc,hv,r1,r2⟩:=r
  exact⟨vf,vc,hv,zf6.keep h fi _ r1,zf6.keep h ca _ r2⟩
 | .niliface,_,r=>r
 | .nilmap,_,r=>r
 | .map _,_,r=>r
 | .iface t d,_,r=>by
  obtain⟨u,hv,r⟩:=r
  exact⟨u,hv,Rep.keep h d u r⟩
 | .agg cs,_,r=>by
  obtain⟨a,hv,r,h1⟩:=r
  exact⟨a,hv,zf6.keep h cs _ r,h1⟩
 | .tup ds,_,r=>by
  obtain⟨a,hv,r⟩:=r
  exact⟨a,hv,zf6.keep h ds _ r⟩
 | .roomy b size k es,_,r=>by
  obtain⟨cap,c,e,f,hv,hl,hk,r,hc,hs,hb⟩:=r
  obtain⟨⟨c',h1,h2⟩,h3⟩:=h.notBox hc hb
  exact⟨cap,c',e,f,hv,hl,hk,RepRows.keep h es b 0 size r,h1,h2.trans hs,h3⟩
theorem zf6.keep {M M':MMap} {w w':World} (h:Keep M w M' w'):∀(ds:List D) (vs:List Value),zf6 M w ds vs→zf6 M' w' ds vs
 |[],_,r=>r
 |d::ds,_,r=>by
  obtain⟨v,vs,hv,r1,r2⟩:=r
  exact⟨v,vs,hv,Rep.keep h d v r1,zf6.keep h ds vs r2⟩
theorem RepCells.keep {M M':MMap} {w w':World} (h:Keep M w M' w'):∀(ds:List D) (b off:Nat),RepCells M w ds b off→RepCells M' w' ds b off
 |[],_,_,_=>trivial
 |d::ds,b,off,r=>by
  obtain⟨⟨v,hv,ho,hi,r1⟩,r2⟩:=r
  obtain⟨h1,h2⟩:=h.cell hv hi
  exact⟨⟨v,h1,ho,h2,Rep.keep h d v r1⟩,RepCells.keep h ds b _ r2⟩
theorem RepRows.keep {M M':MMap} {w w':World} (h:Keep M w M' w'):∀(es:List (List D)) (b off size:Nat),RepRows M w es b off size→RepRows M' w' es b off size
 |[],_,_,_,_=>trivial
 |e::es,b,off,size,r=>by
  obtain⟨r0,r1,r2⟩:=r
  exact⟨r0,RepCells.keep h e b off r1,RepRows.keep h es b _ size r2⟩
end
end Go.AL
namespace Go.AL
inductive Ky where
 |int (k:IntKind) (n:Int)|str (s:ByteArray)
 deriving DecidableEq
def Ky.v:Ky→Value
 | .int k n=> .int k n
 | .str s=> .string s
def Ky.d:Ky→D
 | .int k n=> .int k n
 | .str s=> .str s
def Ky.kind:Ky→Option IntKind
 | .int k _=>some k
 | .str _=>none
inductive MO where
 |map (kk:Option IntKind) (ks:List (Ky×Nat)) (vs:List D) (clock:Nat)
 |iter (m since:Nat) (seen:List Nat)
@[ext] structure St where
 box:Nat→Option (List D):=fun _=>none
 buf:Nat→Option (Nat×Nat):=fun _=>none
 mp:Nat→Option MO:=fun _=>none
def St.has (σ:St) (b:Nat):Prop:=σ.box b≠none∨σ.buf b≠none∨σ.mp b≠none
def BoxAt (M:MMap) (w:World) (b:Nat) (cs:List D):Prop:=
 M b=some .box∧∃c e,w.heap[b]? =some (.cells c e (0,0))∧zf6 M w cs c.toList∧∀u∈c.toList,u.oneCell'=true
def BufAt (M:MMap) (w:World) (b size n:Nat):Prop:=
 M b=some (.buf (n*size))∧∃c e cap,w.heap[b]? =some (.cells c e (0,0))∧c.size=cap*size∧n≤cap
def RepObj (M:MMap) (w:World):MO→Obj→Prop
 | .map kk ks vs clock,o=>∃es,o= .map es clock∧es.toList.map (·.key)=ks.map (·.1.v)∧es.toList.map (·.born)=ks.map (·.2)∧zf6 M w vs (es.toList.map (·.val))∧
   (ks.map (·.1)).Nodup∧(ks.map (·.2)).Nodup∧(∀p∈ks,p.2<clock)∧∀p∈ks,p.1.kind=kk
 | .iter m since seen,o=>∃a,o= .mapIter (some m) since a since∧a.toList=seen
def MpAt (M:MMap) (w:World) (b:Nat) (o:MO):Prop:=
 M b=some .box∧∃x,w.heap[b]? =some x∧RepObj M w o x
structure Inv (M:MMap) (σ:St) (w:World):Prop where
 box:∀b cs,σ.box b=some cs→BoxAt M w b cs
 buf:∀b s n,σ.buf b=some (s,n)→BufAt M w b s n
 mp:∀b o,σ.mp b=some o→MpAt M w b o
 dom:∀b,M b≠none→b<w.heap.size
structure KeepF (M:MMap) (σ:St) (w:World) (M':MMap) (σ':St) (w':World):Prop extends Keep M w M' w' where
 frame:∀b,M b≠none→¬σ.has b→M' b=M b∧w'.heap[b]? =w.heap[b]?
 fresh:∀b,σ'.has b→σ.has b∨w.heap.size≤b
theorem Inv.lt {M:MMap} {σ:St} {w:World} (h:Inv M σ w) {b:Nat} (hb:σ.has b):M b≠none:=by
 rcases hb with hb|hb|hb
 ·cases hc:σ.box b with
  |none=>exact absurd hc hb
  |some cs=>simp[(h.box b cs hc).1]
 ·cases hc:σ.buf b with
  |none=>exact absurd hc hb
  |some p=>simp[(h.buf b p.1 p.2 hc).1]
 ·cases hc:σ.mp b with
  |none=>exact absurd hc hb
  |some o=>simp[(h.mp b o hc).1]
theorem KeepF.refl (M:MMap) (σ:St) (w:World):KeepF M σ w M σ w:=
 {Keep.refl M w with frame:=fun _ _ _=>⟨rfl,rfl⟩,fresh:=fun _ h=> .inl h}
theorem KeepF.trans {M M₁ M₂:MMap} {σ σ₁ σ₂:St} {w w₁ w₂:World} (hd:∀b,M b≠none→b<w.heap.size) (h:KeepF M σ w M₁ σ₁ w₁) (k:KeepF M₁ σ₁ w₁ M₂ σ₂ w₂):KeepF M σ w M₂ σ₂ w₂:=
 {h.toKeep.trans k.toKeep with
  frame:=fun b hM hb=>by
   obtain⟨h1,h2⟩:=h.frame b hM hb
   have hb':¬σ₁.has b:=fun hin=>by
    rcases h.fresh b hin with h'|h'
    ·exact hb h'
    ·have:=hd b hM; omega
   obtain⟨k1,k2⟩:=k.frame b (by rw[h1]; exact hM) hb'
   exact⟨k1.trans h1,k2.trans h2⟩
  fresh:=fun b hb=>by
   rcases k.fresh b hb with h'|h'
   ·exact h.fresh b h'
   ·exact .inr (Nat.le_trans h.size h')}
abbrev Env:=Nat→D
def upd (T:Env) (t:Nat) (d:D):Env:=fun u=>if u=t then d else T u
def aput (T:Env) (dst:Option Nat) (d:D):Env:=match dst with|some t=>upd T t d|none=>T
class DSt where
 ds:List Deferred
instance dst0:DSt:=⟨[]⟩
structure AInv [DSt] (N:Nat) (M:MMap) (T:Env) (σ:St) (a:Act) (w:World):Prop where
 inv:Inv M σ w
 size:a.tmps.size=N
 defers:a.defers=DSt.ds
 env:∀t,Rep M w (T t) (a.tmps.getD t undef)
theorem AInv.put [DSt] {N:Nat} {M:MMap} {T:Env} {σ:St} {a:Act} {w:World} (h:AInv N M T σ a w) {dst:Option Nat} {d:D} {v:Value}
  (hd:∀t,dst=some t→t<N) (hr:Rep M w d v):AInv N M (aput T dst d) σ (a.put dst v) w:=by
 cases dst with
 |none=>exact h
 |some t=>
  have ht:=hd t rfl
  refine⟨h.inv,by simp[Act.put,h.size],h.defers,fun u=> ?_⟩
  simp only[aput,upd,Act.put]
  by_cases hu:u=t
  ·subst hu
   simp only[if_true]
   have hlt:u<a.tmps.size:=by rw[h.size]; exact ht
   simp[hlt,hr]
  ·simp only[hu,if_false]
   have:=h.env u
   simpa[Array.getElem?_setIfInBounds_ne (Ne.symm hu)] using this
theorem AInv.keep [DSt] {N:Nat} {M M':MMap} {T:Env} {σ σ':St} {a:Act} {w w':World} (h:AInv N M T σ a w) (hk:Keep M w M' w') (hi:Inv M' σ' w'):AInv N M' T σ' a w':=
 ⟨hi,h.size,h.defers,fun t=>(h.env t).keep hk⟩
inductive XA where
 |normal|exit (id:Nat)|goto (l:Nat)|ret|panic (d:D)
def RepX (M:MMap) (w:World):XA→Exit→Prop
 | .normal,e=>e= .normal
 | .exit id,e=>e= .exit id
 | .goto l,e=>e= .goto l
 | .ret,e=>e= .ret
 | .panic d,e=>∃v,e= .panic [{v,recovered:=false}]∧Rep M w d v
def Post [DSt] (N:Nat) (M:MMap) (σ:St) (w:World) (Q:XA→Env→St→Prop) (e:Exit) (a':Act) (w':World):Prop:=
 ∃M' T' σ' x,RepX M' w' x e∧AInv N M' T' σ' a' w'∧KeepF M σ w M' σ' w'∧Q x T' σ'
def awp [DSt] (P:Program) (N:Nat) (c:Code) (Q:XA→Env→St→Prop) (T:Env) (σ:St):Prop:=
 ∀M a w,AInv N M T σ a w→c.wp P (Post N M σ w Q) a w
section
variable {P : Program} {N : Nat} {Q Q' : XA → Env → St → Prop} {T : Env} {σ : St}
variable [DSt]
theorem Post.mono {M:MMap} {w:World} {e:Exit} {a':Act} {w':World} (hq:∀x T σ,Q x T σ→Q' x T σ) (h:Post N M σ w Q e a' w'):Post N M σ w Q' e a' w':=by
 obtain⟨M',T',σ',x,h1,h2,h3,h4⟩:=h
 exact⟨M',T',σ',x,h1,h2,h3,hq _ _ _ h4⟩
theorem Post.trans {M M₁:MMap} {σ₁:St} {w w₁:World} {e:Exit} {a':Act} {w':World} (hd:∀b,M b≠none→b<w.heap.size) (hk:KeepF M σ w M₁ σ₁ w₁) (h:Post N M₁ σ₁ w₁ Q e a' w'):Post N M σ w Q e a' w':=by
 obtain⟨M',T',σ',x,h1,h2,h3,h4⟩:=h
 exact⟨M',T',σ',x,h1,h2,hk.trans hd h3,h4⟩
theorem awp_mono {c:Code} (h:awp P N c Q T σ) (hq:∀x T σ,Q x T σ→Q' x T σ):awp P N c Q' T σ:=
 fun M a w hi=>wp_mono (h M a w hi) fun _ _ _ hp=>hp.mono hq
def thenA (next:Env→St→Prop) (Q:XA→Env→St→Prop):XA→Env→St→Prop
 | .normal,T,σ=>next T σ
 | .exit id,T,σ=>Q (.exit id) T σ
 | .goto l,T,σ=>Q (.goto l) T σ
 | .ret,T,σ=>Q .ret T σ
 | .panic d,T,σ=>Q (.panic d) T σ
theorem awp_skip (h:Q .normal T σ):awp P N .skip Q T σ:=
 fun M a w hi=>wp_skip ⟨M,T,σ,.normal,rfl,hi,KeepF.refl _ _ _,h⟩
theorem awp_exit {id:Nat} (h:Q (.exit id) T σ):awp P N (.exit id) Q T σ:=
 fun M a w hi=>wp_exit ⟨M,T,σ,.exit id,rfl,hi,KeepF.refl _ _ _,h⟩
theorem awp_ret (h:Q .ret T σ):awp P N .ret Q T σ:=
 fun M a w hi=>wp_ret ⟨M,T,σ,.ret,rfl,hi,KeepF.refl _ _ _,h⟩
theorem awp_seq {x y:Code} (h:awp P N x (thenA (awp P N y Q) Q) T σ):awp P N (.seq x y) Q T σ:=by
 intro M a w hi
 refine wp_seq (wp_mono (h M a w hi) fun e a' w' hp=> ?_)
 obtain⟨M',T',σ',x',h1,h2,h3,h4⟩:=hp
 cases x' with
 |normal=>
  obtain rfl:=h1
  exact wp_mono (h4 M' a' w' h2) fun e a'' w'' hp'=>hp'.trans hi.inv.dom h3
 |exit id=>obtain rfl:=h1; exact⟨M',T',σ',.exit id,rfl,h2,h3,h4⟩
 |goto l=>obtain rfl:=h1; exact⟨M',T',σ',.goto l,rfl,h2,h3,h4⟩
 |ret=>obtain rfl:=h1; exact⟨M',T',σ',.ret,rfl,h2,h3,h4⟩
 |panic d=>obtain⟨v,rfl,hr⟩:=h1; exact⟨M',T',σ',.panic d,⟨v,rfl,hr⟩,h2,h3,h4⟩
def blockA (id:Nat) (Q:XA→Env→St→Prop):XA→Env→St→Prop
 | .normal,T,σ=>Q .normal T σ
 | .exit id',T,σ=>if id'=id then Q .normal T σ else Q (.exit id') T σ
 | .goto l,T,σ=>Q (.goto l) T σ
 | .ret,T,σ=>Q .ret T σ
 | .panic d,T,σ=>Q (.panic d) T σ
theorem awp_block {id:Nat} {c:Code} (h:awp P N c (blockA id Q) T σ):awp P N (.block id c) Q T σ:=by
 intro M a w hi
 refine wp_block (wp_mono (h M a w hi) fun e a' w' hp=> ?_)
 obtain⟨M',T',σ',x',h1,h2,h3,h4⟩:=hp
 cases x' with
 |normal=>obtain rfl:=h1; exact⟨M',T',σ',.normal,rfl,h2,h3,h4⟩
 |exit id'=>
  obtain rfl:=h1
  simp only[blockA] at h4
  simp only[Exit.inBlock]
  by_cases hid:id'=id
  ·rw[if_pos hid] at h4 ⊢; exact⟨M',T',σ',.normal,rfl,h2,h3,h4⟩
  ·rw[if_neg hid] at h4 ⊢; exact⟨M',T',σ',.exit id',rfl,h2,h3,h4⟩
 |goto l=>obtain rfl:=h1; exact⟨M',T',σ',.goto l,rfl,h2,h3,h4⟩
 |ret=>obtain rfl:=h1; exact⟨M',T',σ',.ret,rfl,h2,h3,h4⟩
 |panic d=>obtain⟨v,rfl,hr⟩:=h1; exact⟨M',T',σ',.panic d,⟨v,rfl,hr⟩,h2,h3,h4⟩
def cD:Value→D
 | .bool b=> .bool b
 | .int k n=> .int k n
 | .string s=> .str s
 | .pointer none=> .nilptr
 | .slice none 0 0=> .slice .nil []
 | .nilFunc=> .nilfunc
 | .nilIface=> .niliface
 |_=> .any
theorem cD_rep (M:MMap) (w:World) (v:Value):Rep M w (cD v) v:=by
 unfold cD
 split <;> simp[Rep]
def ev (T:Env):Operand→D
 | .tmp t=>T t
 | .const v=>cD v
 | .global _=> .any
 | .func f=> .func (.func f) [] []
theorem ev_rep {M:MMap} {a:Act} {w:World} (h:AInv N M T σ a w) (x:Operand):Rep M w (ev T x) (a.eval x):=by
 cases x with
 |tmp t=>exact h.env t
 |const v=>exact cD_rep _ _ _
 |global g=>trivial
 |func f=>exact⟨#[],#[],rfl,rfl,rfl⟩
theorem awp_cond {c:Operand} {x y:Code} {t:Bool} (hc:ev T c= .bool t) (h:if t=true then awp P N x Q T σ else awp P N y Q T σ):awp P N (.cond c x y) Q T σ:=by
 intro M a w hi
 have hr:=ev_rep hi c
 rw[hc] at hr
 refine wp_cond (t:=t) hr ?_
 cases t
 ·exact h M a w hi
 ·exact h M a w hi
def Env.le (E T:Env):Prop:=∀t,E t= .any∨E t=T t
structure St.le (s σ:St):Prop where
 box:∀b cs,s.box b=some cs→σ.box b=some cs
 buf:∀b p,s.buf b=some p→σ.buf b=some p
 mp:∀b o,s.mp b=some o→σ.mp b=some o
theorem St.le.refl (σ:St):St.le σ σ:=⟨fun _ _ h=>h,fun _ _ h=>h,fun _ _ h=>h⟩
theorem St.le.trans {s σ τ:St} (h:St.le s σ) (k:St.le σ τ):St.le s τ:=⟨fun b cs x=>k.box b cs (h.box b cs x),fun b p x=>k.buf b p (h.buf b p x),fun b o x=>k.mp b o (h.mp b o x)⟩
theorem St.le.has {s σ:St} (h:St.le s σ) {b:Nat} (hb:s.has b):σ.has b:=by
 rcases hb with hb|hb|hb
 ·cases hc:s.box b with
  |none=>exact absurd hc hb
  |some cs=>exact .inl (by rw[h.box b cs hc]; simp)
 ·cases hc:s.buf b with
  |none=>exact absurd hc hb
  |some p=>exact .inr (.inl (by rw[h.buf b p hc]; simp))
 ·cases hc:s.mp b with
  |none=>exact absurd hc hb
  |some o=>exact .inr (.inr (by rw[h.mp b o hc]; simp))
theorem St.le.nil (σ:St):St.le {} σ:=⟨fun _ _ h=>(by cases h),fun _ _ h=>(by cases h),fun _ _ h=>(by cases h)⟩
theorem AInv.forget {M:MMap} {a:Act} {w:World} {E:Env} {s:St} (h:AInv N M T σ a w) (he:Env.le E T) (hs:St.le s σ):AInv N M E s a w:=
 ⟨⟨fun b cs hb=>h.inv.box b cs (hs.box b cs hb),fun b s n hb=>h.inv.buf b s n (hs.buf b _ hb),fun b o hb=>h.inv.mp b o (hs.mp b o hb),h.inv.dom⟩,h.size,h.defers,fun t=>by
  rcases he t with h'|h'
  ·rw[h']; trivial
  ·rw[h']; exact h.env t⟩
theorem awp_forget {c:Code} {E:Env} {s:St} (he:Env.le E T) (hs:St.le s σ) (h:awp P N c Q E s):awp P N c Q T σ:=by
 intro M a w hi
 refine wp_mono (h M a w (hi.forget he hs)) fun e a' w' hp=> ?_
 obtain⟨M',T',σ',x',h1,h2,h3,h4⟩:=hp
 refine⟨M',T',σ',x',h1,h2,{h3.toKeep with frame:=fun b hM hb=>h3.frame b hM (fun hin=>hb (hs.has hin)),fresh:=fun b hb=> ?_},h4⟩
 rcases h3.fresh b hb with h'|h'
 ·exact .inl (hs.has h')
 ·exact .inr h'
theorem awp_loop {α:Type} {c:Code} (E:α→Env) (S:α→St) (ok:α→Prop) (μ:α→Nat) (x₀:α) (h₀:ok x₀) (he:Env.le (E x₀) T) (hs:St.le (S x₀) σ)
  (round:∀x,ok x→awp P N c (thenA (fun T' σ'=>∃y,ok y∧μ y<μ x∧Env.le (E y) T'∧St.le (S y) σ') Q) (E x) (S x)):awp P N (.loop c) Q T σ:=by
 refine awp_forget he hs ?_
 intro M a w hi
 intro b k cs
 have key:∀n x a₁ w₁ M₁,μ x=n→ok x→AInv N M₁ (E x) (S x) a₁ w₁→KeepF M (S x₀) w M₁ (S x) w₁→
   ∃e a' w',Post N M (S x₀) w Q e a' w'∧Arrives P (lone (b.at a₁ (.code c:: .inLoop c::k)) cs w₁) b k cs e a' w':=by
  intro n
  induction n using Nat.strongRecOn with
  |_ n ih=>
   intro x a₁ w₁ M₁ hn hok hi₁ hk₁
   obtain⟨e,a₂,w₂,hq,harr⟩:=round x hok M₁ a₁ w₁ hi₁ b (.inLoop c::k) cs
   obtain⟨M',T',σ',x',g1,g2,g3,g4⟩:=hq
   have hk₂:=hk₁.trans hi.inv.dom g3
   cases x' with
   |normal=>
    obtain rfl:=g1
    obtain⟨y,hy,hlt,hye,hys⟩:=g4
    have hf:KeepF M (S x₀) w M' (S y) w₂:={hk₂.toKeep with frame:=hk₂.frame,fresh:=fun b hb=>hk₂.fresh b (hys.has hb)}
    obtain⟨e₂,a₃,w₃,hq₂,harr₂⟩:=ih (μ y) (hn▸hlt) y a₂ w₂ M' rfl hy (g2.forget hye hys) hf
    exact⟨e₂,a₃,w₃,hq₂,.of_steps (Steps.trans harr (.one step_inLoop)) harr₂⟩
   |exit id=>obtain rfl:=g1; exact⟨_,a₂,w₂,⟨M',T',σ',.exit id,rfl,g2,hk₂,g4⟩,.pass (x:= .inLoop c) rfl (fun _ _=> .inl (by simp)) harr⟩
   |goto l=>obtain rfl:=g1; exact⟨_,a₂,w₂,⟨M',T',σ',.goto l,rfl,g2,hk₂,g4⟩,.pass (x:= .inLoop c) rfl (fun _ _=> .inl (by simp)) harr⟩
   |ret=>obtain rfl:=g1; exact⟨_,a₂,w₂,⟨M',T',σ',.ret,rfl,g2,hk₂,g4⟩,.pass (x:= .inLoop c) rfl (fun _ _=> .inl (by simp)) harr⟩
   |panic d=>obtain⟨v,rfl,hr⟩:=g1; exact⟨_,a₂,w₂,⟨M',T',σ',.panic d,⟨v,rfl,hr⟩,g2,hk₂,g4⟩,.pass (x:= .inLoop c) rfl (fun _ _=> .inl (by simp)) harr⟩
 obtain⟨e,a',w',hq,harr⟩:=key _ x₀ a w M rfl h₀ hi (KeepF.refl _ _ _)
 exact⟨e,a',w',hq,.of_steps (.one step_loop) harr⟩
end
end Go.AL
namespace Go.AL
section
variable {M : MMap} {w : World}
theorem zf6.iff:∀(ds:List D) (vs:List Value),zf6 M w ds vs↔ds.length=vs.length∧∀(i:Nat) (d:D) (v:Value),ds[i]? =some d→vs[i]? =some v→Rep M w d v
 |[],vs=>by cases vs <;> simp[zf6]
 |d::ds,[]=>by simp[zf6]
 |d::ds,v::vs=>by
  simp only[zf6,List.length_cons,Nat.add_right_cancel_iff]
  constructor
  ·rintro⟨v',vs',he,h1,h2⟩
   simp only[List.cons.injEq] at he
   obtain⟨rfl,rfl⟩:=he
   obtain⟨hl,h⟩:=(zf6.iff ds vs).1 h2
   refine⟨hl,fun i d' v' hd hv=> ?_⟩
   cases i with
   |zero=>simp at hd hv; subst hd; subst hv; exact h1
   |succ i=>exact h i d' v' (by simpa using hd) (by simpa using hv)
  ·rintro⟨hl,h⟩
   exact⟨v,vs,rfl,h 0 d v rfl rfl,(zf6.iff ds vs).2 ⟨hl,fun i d' v' hd hv=>h (i+1) d' v' (by simpa using hd) (by simpa using hv)⟩⟩
theorem zf6.length {ds:List D} {vs:List Value} (h:zf6 M w ds vs):ds.length=vs.length:=((zf6.iff ds vs).1 h).1
theorem zf6.get {ds:List D} {vs:List Value} (h:zf6 M w ds vs) {i:Nat} {d:D} (hd:ds[i]? =some d):∃v,vs[i]? =some v∧Rep M w d v:=by
 obtain⟨hl,hh⟩:=(zf6.iff ds vs).1 h
 have hi:i<vs.length:=by rw[←hl]; exact(List.getElem?_eq_some_iff.1 hd).1
 exact⟨vs[i],by simp[hi],hh i d _ hd (by simp[hi])⟩
theorem zf6.drop {ds:List D} {vs:List Value} (h:zf6 M w ds vs) (k:Nat):zf6 M w (ds.drop k) (vs.drop k):=by
 obtain⟨hl,hh⟩:=(zf6.iff ds vs).1 h
 refine(zf6.iff _ _).2 ⟨by simp[hl],fun i d v hd hv=>hh (k+i) d v (by simpa[List.getElem?_drop] using hd) (by simpa[List.getElem?_drop] using hv)⟩
theorem zf6.take {ds:List D} {vs:List Value} (h:zf6 M w ds vs) (k:Nat):zf6 M w (ds.take k) (vs.take k):=by
 obtain⟨hl,hh⟩:=(zf6.iff ds vs).1 h
 refine(zf6.iff _ _).2 ⟨by simp[hl],fun i d v hd hv=> ?_⟩
 simp only[List.getElem?_take] at hd hv
 split at hd
 ·rename_i hlt; rw[if_pos hlt] at hv; exact hh i d v hd hv
 ·cases hd
theorem zf6.append {ds ds':List D} {vs vs':List Value} (h:zf6 M w ds vs) (h':zf6 M w ds' vs'):zf6 M w (ds++ds') (vs++vs'):=by
 induction ds generalizing vs with
 |nil=>simp only[zf6] at h; subst h; exact h'
 |cons d ds ih=>
  obtain⟨v,vs₁,rfl,h1,h2⟩:=h
  exact⟨v,vs₁++vs',rfl,h1,ih h2⟩
theorem zf6.map {α:Type} (f:α→D) (g:α→Value) (l:List α) (h:∀x∈l,Rep M w (f x) (g x)):zf6 M w (l.map f) (l.map g):=by
 induction l with
 |nil=>rfl
 |cons x l ih=>exact⟨_,_,rfl,h x (by simp),ih fun y hy=>h y (by simp[hy])⟩
theorem RepCells.get:∀{cs:List D} {b off:Nat},RepCells M w cs b off→∀{i:Nat} {d:D},cs[i]? =some d→
  ∃v,w.cell? ⟨b,off+i,none⟩=some v∧v.oneCell'=true∧ImmAt M b (off+i)∧Rep M w d v
 |[],_,_,_,i,d,hd=>by simp at hd
 |c::cs,b,off,h,i,d,hd=>by
  obtain⟨h1,h2⟩:=h
  cases i with
  |zero=>simp at hd; subst hd; exact h1
  |succ i=>
   have:=RepCells.get h2 (i:=i) (by simpa using hd)
   rwa[show off+(i+1)=off+1+i by omega]
theorem RepCells.mk:∀{cs:List D} {b off:Nat},(∀(i:Nat) (d:D),cs[i]? =some d→∃v,w.cell? ⟨b,off+i,none⟩=some v∧v.oneCell'=true∧ImmAt M b (off+i)∧Rep M w d v)→RepCells M w cs b off
 |[],_,_,_=>trivial
 |c::cs,b,off,h=>by
  refine⟨h 0 c rfl,RepCells.mk fun i d hd=> ?_⟩
  have:=h (i+1) d (by simpa using hd)
  rwa[show off+1+i=off+(i+1) by omega]
theorem RepCells.drop {cs:List D} {b off:Nat} (h:RepCells M w cs b off) (k:Nat):RepCells M w (cs.drop k) b (off+k):=
 RepCells.mk fun i d hd=>by
  have:=h.get (i:=k+i) (by simpa[List.getElem?_drop] using hd)
  rwa[show off+k+i=off+(k+i) by omega]
theorem RepRows.get:∀{es:List (List D)} {b off size:Nat},RepRows M w es b off size→∀{i:Nat} {e:List D},es[i]? =some e→e.length=size∧RepCells M w e b (off+i*size)
 |[],_,_,_,_,i,e,he=>by simp at he
 |c::cs,b,off,size,h,i,e,he=>by
  obtain⟨h0,h1,h2⟩:=h
  cases i with
  |zero=>simp at he; subst he; simpa using ⟨h0,h1⟩
  |succ i=>
   have:=RepRows.get h2 (i:=i) (by simpa using he)
   rwa[show off+(i+1)*size=off+size+i*size by rw[Nat.add_mul]; omega]
theorem RepRows.mk:∀{es:List (List D)} {b off size:Nat},(∀(i:Nat) (e:List D),es[i]? =some e→e.length=size∧RepCells M w e b (off+i*size))→RepRows M w es b off size
 |[],_,_,_,_=>trivial
 |c::cs,b,off,size,h=>by
  have h0:=h 0 c rfl
  refine⟨h0.1,by simpa using h0.2,RepRows.mk fun i e he=> ?_⟩
  have:=h (i+1) e (by simpa using he)
  rwa[show off+(i+1)*size=off+size+i*size by rw[Nat.add_mul]; omega] at this
theorem RepRows.drop {es:List (List D)} {b off size:Nat} (h:RepRows M w es b off size) (k:Nat):RepRows M w (es.drop k) b (off+k*size) size:=
 RepRows.mk fun i e he=>by
  have:=h.get (i:=k+i) (by simpa[List.getElem?_drop] using he)
  rwa[show off+k*size+i*size=off+(k+i)*size by rw[Nat.add_mul]; omega]
theorem RepRows.take {es:List (List D)} {b off size:Nat} (h:RepRows M w es b off size) (k:Nat):RepRows M w (es.take k) b off size:=
 RepRows.mk fun i e he=>by
  simp only[List.getElem?_take] at he
  split at he
  ·exact h.get he
  ·cases he
end
section
variable (P : Program)
def szP (t:TypeId):Option Nat:=(P.info? t).map (·.size)
def zd5 (t:TypeId):Option Nat:=(P.info? t).map (·.bytes)
def zf4 (t:TypeId):Option (List D):=(P.info? t).bind fun i=>i.zero.bind fun z=>if z.cells.toList.all Value.oneCell'=true then some (z.cells.toList.map cD) else none
def aggP (t:TypeId):Option Bool:=(P.underlying t).map fun| .struct _| .array _ _=>true|_=>false
def sliP (t:TypeId):Option TypeId:=match P.underlying t with|some (.slice e)=>some e|_=>none
def arrP (t:TypeId):Option (Nat×TypeId):=match P.underlying t with|some (.array n e)=>some (n,e)|_=>none
def intP (t:TypeId):Option IntKind:=match P.underlying t with|some (.int k)=>some k|_=>none
def strP (t:TypeId):Bool:=match P.underlying t with|some .string=>true|_=>false
def boolP (t:TypeId):Bool:=match P.underlying t with|some .bool=>true|_=>false
def zf7 (t:TypeId):Bool:=match P.underlying t with|some (.interface _)=>false|some _=>true|none=>false
def ze5 (t:TypeId):Bool:=(P.underlying t).isSome
def fldP (t:TypeId) (f:Nat):Option (Nat×TypeId):=
 match P.underlying t with
 |some (.struct fs)=>(fs[f]?).bind fun x=>match szP P x.type with|some 0=>none|some _=>some (x.offset,x.type)|none=>none
 |_=>none
def partD (t:TypeId) (cs:List D) (off:Nat):Option D:=
 match aggP P t,szP P t with
 |some true,some n=>if off+n≤cs.length then some (.agg ((cs.drop off).take n)) else none
 |some false,some _=>cs[off]?
 |_,_=>none
end
section
variable {P : Program} {M : MMap} {w : World}
theorem run_sizeOf {t:TypeId} {n:Nat} (h:szP P t=some n) (w:World):(sizeOf t).run P w= .ok n w:=by
 simp only[szP,Option.map_eq_some_iff] at h
 obtain⟨i,hi,rfl⟩:=h
 simp[sizeOf,typeInfo,hi]
theorem run_isAgg {t:TypeId} {b:Bool} (h:aggP P t=some b) (w:World):(isAgg t).run P w= .ok b w:=by
 simp only[aggP,Option.map_eq_some_iff] at h
 obtain⟨d,hd,rfl⟩:=h
 cases d <;> simp[isAgg,run_underlying hd]
theorem und_of_sli {t e:TypeId} (h:sliP P t=some e):P.underlying t=some (.slice e):=by
 unfold sliP at h; split at h
 ·rename_i e' he; cases h; exact he
 ·cases h
theorem und_of_arr {t e:TypeId} {n:Nat} (h:arrP P t=some (n,e)):P.underlying t=some (.array n e):=by
 unfold arrP at h; split at h
 ·rename_i he; cases h; exact he
 ·cases h
theorem und_of_int {t:TypeId} {k:IntKind} (h:intP P t=some k):P.underlying t=some (.int k):=by
 unfold intP at h; split at h
 ·rename_i he; cases h; exact he
 ·cases h
theorem und_of_str {t:TypeId} (h:strP P t=true):P.underlying t=some .string:=by
 unfold strP at h; split at h
 ·assumption
 ·cases h
theorem und_of_bool {t:TypeId} (h:boolP P t=true):P.underlying t=some .bool:=by
 unfold boolP at h; split at h
 ·assumption
 ·cases h
theorem und_of_fld {t:TypeId} {f off:Nat} {ft:TypeId} (h:fldP P t f=some (off,ft)):∃fs x n,P.underlying t=some (.struct fs)∧fs[f]? =some x∧x.offset=off∧x.type=ft∧szP P ft=some n∧n≠0:=by
 unfold fldP at h
 split at h
 ·rename_i fs hfs
  simp only[Option.bind_eq_some_iff] at h
  obtain⟨x,hx,h⟩:=h
  split at h
  ·cases h
  ·rename_i n hn hs
   simp only[Option.some.injEq,Prod.mk.injEq] at h
   obtain⟨rfl,rfl⟩:=h
   exact⟨fs,x,n,hfs,hx,rfl,rfl,hs,fun h0=>by subst h0; exact hn rfl⟩
  ·cases h
 ·cases h
theorem oneCell_take {a:Array Value} (h:∀u∈a.toList,u.oneCell'=true) (i j:Nat):∀u∈(a.extract i j).toList,u.oneCell'=true:=by
 intro u hu
 refine h u ?_
 rw[Array.toList_extract,List.extract_eq_take_drop] at hu
 exact List.mem_of_mem_drop (List.mem_of_mem_take hu)
theorem part_rep {t:TypeId} {cs:List D} {off:Nat} {d:D} (hp:partD P t cs off=some d) {a:Array Value} (h:zf6 M w cs a.toList) (h1:∀u∈a.toList,u.oneCell'=true) (w':World):
  ∃v,(part t a off).run P w'= .ok v w'∧Rep M w d v:=by
 unfold partD at hp
 split at hp
 ·rename_i n hg hs
  split at hp
  ·rename_i hle
   cases hp
   refine⟨.agg (a.extract off (off+n)),by simp[part,run_isAgg hg,run_sizeOf hs],a.extract off (off+n),rfl, ?_,oneCell_take h1 _ _⟩
   rw[Array.toList_extract,List.extract_eq_take_drop,show off+n-off=n by omega]
   exact(h.drop off).take n
  ·cases hp
 ·rename_i n hg hs
  obtain⟨v,hv,hr⟩:=h.get hp
  have:a[off]? =some v:=by simpa using hv
  exact⟨v,by simp[part,run_isAgg hg,this],hr⟩
 ·cases hp
theorem load_rep {t:TypeId} {cs:List D} {d:D} {b off:Nat} (hp:partD P t cs 0=some d) (h:RepCells M w cs b off):
  ∃v,(loadVar t ⟨b,off,none⟩).run P w= .ok v w∧Rep M w d v:=by
 unfold partD at hp
 split at hp
 ·rename_i n hg hs
  split at hp
  ·rename_i hle
   cases hp
   have hlen:n≤cs.length:=by omega
   have hc:∀j,j<n→∃v,w.cell? (Addr.add ⟨b,off,none⟩ j)=some v∧v.oneCell'=true∧∀(d:D),cs[j]? =some d→Rep M w d v:=by
    intro j hj
    obtain⟨v,h1,h2,h3,h4⟩:=h.get (i:=j) (d:=cs[j]'(by omega)) (by simp[show j<cs.length by omega])
    refine⟨v, ?_,h2,fun d hd=> ?_⟩
    ·have:Addr.add ⟨b,off,none⟩ j=⟨b,off+j,none⟩:=by unfold Addr.add; split <;> simp_all
     rw[this]; exact h1
    ·simp[show j<cs.length by omega] at hd; subst hd; exact h4
   let f:Nat→Value:=fun j=>(w.cell? (Addr.add ⟨b,off,none⟩ j)).getD undef
   have hf:∀j,j<n→w.cell? (Addr.add ⟨b,off,none⟩ j)=some (f j):=fun j hj=>by
    obtain⟨v,h1,_⟩:=hc j hj
    simp[f,h1]
   have hl:=run_loadCells (P:=P) (w:=w) ⟨b,off,none⟩ n f hf
   refine⟨_,by simp[loadVar,run_isAgg hg,run_sizeOf hs,hl]; rfl,_,rfl, ?_, ?_⟩
   ·refine(zf6.iff _ _).2 ⟨by simp[hlen],fun i d v hd hv=> ?_⟩
    simp only[List.drop_zero,List.getElem?_take] at hd
    split at hd
    ·rename_i hi
     obtain⟨u,g1,g2,g3⟩:=hc i hi
     have:v=u:=by
      simp[hi] at hv
      rw[←hv]; simp[f,g1]
     subst this
     exact g3 d hd
    ·cases hd
   ·intro u hu
    simp at hu
    obtain⟨j,hj,rfl⟩:=hu
    obtain⟨u,g1,g2,g3⟩:=hc j hj
    simp[f,g1,g2]
  ·cases hp
 ·rename_i n hg hs
  obtain⟨v,h1,h2,h3,h4⟩:=h.get hp
  have h1':w.cell? ⟨b,off,none⟩=some v:=by simpa using h1
  exact⟨v,by simp[loadVar,run_isAgg hg,load,Sem.run,h1'],h4⟩
 ·cases hp
end
end Go.AL
namespace Go.AL
section
variable (P : Program)
def eqAll (E:TypeId→D→D→Option Bool) (xs ys:List D):List (TypeId×Nat)→Option Bool
 |[]=>some true
 |(t,off)::r=>match partD P t xs off,partD P t ys off with
  |some a,some b=>match E t a b,eqAll E xs ys r with
   |some p,some q=>some (p&&q)
   |_,_=>none
  |_,_=>none
def fsParts (fs:List Field):List (TypeId×Nat):=fs.map fun f=>(f.type,f.offset)
def eqV:Nat→TypeId→D→D→Option Bool
 |0,_,_,_=>none
 |m+1,t,x,y=>match P.underlying t with
  |some .bool=>match x,y with| .bool a,.bool b=>some (a==b)|_,_=>none
  |some (.int _)=>match x,y with| .int k a,.int k' b=>if k=k' then some (decide (a=b)) else none|_,_=>none
  |some .string=>match x,y with| .str a,.str b=>some (decide (a=b))|_,_=>none
  |some (.struct fs)=>match x,y with
   | .agg xs,.agg ys=>if P.stoodInHeld t=false∧fs.toList.all (fun f=>f.name != "_")=true then eqAll P (eqV m) xs ys (fsParts fs.toList) else none
   |_,_=>none
  |some (.array n e)=>match x,y with
   | .agg xs,.agg ys=>if(P.info? e).isSome=true then eqAll P (eqV m) xs ys ((List.range n).map fun i=>(e,i*P.cellsOf e)) else none
   |_,_=>none
  |_=>none
def eqGP (t:TypeId):Bool:= !(P.eqGuardType P.depth t)
end
section
variable {P : Program} {M : MMap} {w : World}
theorem toList_beq' (a b:ByteArray):(a.toList==b.toList)=decide (a=b):=by
 rw[ByteArray.toList_eq,ByteArray.toList_eq]
 by_cases h:a=b
 ·subst h; simp
 ·have:a.data.toList≠b.data.toList:=fun h'=>h (by cases a; cases b; simp_all[Array.toList_inj])
  rw[decide_eq_false h]
  exact beq_eq_false_iff_ne.2 this
def EqSound (P:Program) (M:MMap) (w:World) (m dd:Nat):Prop:=
 ∀(t:TypeId) (x y:D) (r:Bool) (u v:Value) (w':World),eqV P m t x y=some r→Rep M w x u→Rep M w y v→(Op.equalIn dd t u v).run P w'= .ok r w'
theorem eqAll_step {E:TypeId→D→D→Option Bool} {xs ys:List D} {t:TypeId} {off:Nat} {rest:List (TypeId×Nat)} {r:Bool} (h:eqAll P E xs ys ((t,off)::rest)=some r):
  ∃a b p q,partD P t xs off=some a∧partD P t ys off=some b∧E t a b=some p∧eqAll P E xs ys rest=some q∧r=(p&&q):=by
 simp only[eqAll] at h
 split at h
 ·rename_i a b ha hb
  split at h
  ·rename_i p q hp hq
   cases h
   exact⟨a,b,p,q,ha,hb,hp,hq,rfl⟩
  ·cases h
 ·cases h
theorem eqFields_sound {m dd:Nat} (IH:EqSound P M w m dd) {xs ys:List D} {us vs:Array Value} (hx:zf6 M w xs us.toList) (hy:zf6 M w ys vs.toList)
  (ox:∀u∈us.toList,u.oneCell'=true) (oy:∀u∈vs.toList,u.oneCell'=true) (w':World):
  ∀(fs:List Field) (r:Bool),fs.all (fun f=>f.name != "_")=true→eqAll P (eqV P m) xs ys (fsParts fs)=some r→(Op.eqFields dd us vs fs).run P w'= .ok r w'
 |[],r,_,h=>by
  simp only[fsParts,List.map_nil,eqAll,Option.some.injEq] at h; subst h
  simp[Op.eqFields]
 |f::fs,r,hn,h=>by
  simp only[List.all_cons,Bool.and_eq_true,bne_iff_ne,ne_eq] at hn
  obtain⟨a,b,p,q,ha,hb,hp,hq,rfl⟩:=eqAll_step (rest:=fsParts fs) (by simpa only[fsParts,List.map_cons] using h)
  obtain⟨va,h1,r1⟩:=part_rep ha hx ox w'
  obtain⟨vb,h2,r2⟩:=part_rep hb hy oy w'
  have h3:=IH f.type a b p va vb w' hp r1 r2
  have h4:=eqFields_sound IH hx hy ox oy w' fs q hn.2 hq
  cases p
  ·simp[Op.eqFields,hn.1,h1,h2,h3]
  ·simp[Op.eqFields,hn.1,h1,h2,h3,h4]
theorem eqItems_sound {m dd:Nat} (IH:EqSound P M w m dd) {xs ys:List D} {us vs:Array Value} (hx:zf6 M w xs us.toList) (hy:zf6 M w ys vs.toList)
  (ox:∀u∈us.toList,u.oneCell'=true) (oy:∀u∈vs.toList,u.oneCell'=true) (w':World) (e:TypeId) (n:Nat):
  ∀(l:List Nat) (r:Bool),eqAll P (eqV P m) xs ys (l.map fun i=>(e,i*n))=some r→(Op.eqItems dd e n us vs l).run P w'= .ok r w'
 |[],r,h=>by
  simp only[List.map_nil,eqAll,Option.some.injEq] at h; subst h
  simp[Op.eqItems]
 |i::l,r,h=>by
  obtain⟨a,b,p,q,ha,hb,hp,hq,rfl⟩:=eqAll_step (rest:=l.map fun i=>(e,i*n)) (by simpa only[List.map_cons] using h)
  obtain⟨va,h1,r1⟩:=part_rep ha hx ox w'
  obtain⟨vb,h2,r2⟩:=part_rep hb hy oy w'
  have h3:=IH e a b p va vb w' hp r1 r2
  have h4:=eqItems_sound IH hx hy ox oy w' e n l q hq
  cases p
  ·simp[Op.eqItems,h1,h2,h3]
  ·simp[Op.eqItems,h1,h2,h3,h4]
theorem eqV_sound (d:Nat):∀m:Nat,EqSound P M w m (d+m)
 |0=>fun t x y r u v w' h _ _=>by cases h
 |m+1=>fun t x y r u v w' h hx hy=>by
  have IH:=eqV_sound d m
  unfold eqV at h
  split at h
  ·rename_i hu
   split at h
   ·cases h
    obtain rfl:=hx
    obtain rfl:=hy
    exact run_equalIn_bool w' (d+m) t _ _ hu
   ·cases h
  ·rename_i hu
   split at h
   ·rename_i k a k' b
    split at h
    ·rename_i hk
     cases h
     subst hk
     obtain rfl:=hx
     obtain rfl:=hy
     have:=run_equalIn_int (P:=P) w' (d+m) t k _ a b hu
     rw[show d+(m+1)=d+m+1 from rfl,this]
     rfl
    ·cases h
   ·cases h
  ·rename_i hu
   split at h
   ·rename_i a b
    cases h
    obtain rfl:=hx
    obtain rfl:=hy
    have:=run_equalIn_string (P:=P) w' (d+m) t a b hu
    rw[show d+(m+1)=d+m+1 from rfl,this,toList_beq']
   ·cases h
  ·rename_i fs hu
   split at h
   ·rename_i xs ys
    split at h
    ·rename_i hs
     obtain⟨us,rfl,rx,ox⟩:=hx
     obtain⟨vs,rfl,ry,oy⟩:=hy
     have hfs:P.fieldsOf t=fs:=by simp[Program.fieldsOf,hu]
     have:=run_equalIn_struct (P:=P) w' (d+m) t us vs (by rw[hfs]; exact hu) hs.1
     rw[show d+(m+1)=d+m+1 from rfl,this,hfs]
     exact eqFields_sound IH rx ry ox oy w' fs.toList r hs.2 h
    ·cases h
   ·cases h
  ·rename_i n e hu
   split at h
   ·rename_i xs ys
    obtain⟨us,rfl,rx,ox⟩:=hx
    obtain⟨vs,rfl,ry,oy⟩:=hy
    split at h
    ·rename_i hsome
     obtain⟨i,hi⟩:=Option.isSome_iff_exists.1 hsome
     have:=run_equalIn_array (P:=P) w' (d+m) us vs hu hi
     rw[show d+(m+1)=d+m+1 from rfl,this]
     exact eqItems_sound IH rx ry ox oy w' e _ _ r h
    ·cases h
   ·cases h
  ·cases h
end
end Go.AL
namespace Go.AL
def D.cellQ:D→Bool
 | .agg _| .tup _| .any=>false
 |_=>true
theorem Rep.oneCell {M:MMap} {w:World} {d:D} {v:Value} (h:Rep M w d v) (hq:d.cellQ=true):v.oneCell'=true:=by
 cases d with
 |any=>cases hq
 |agg _=>cases hq
 |tup _=>cases hq
 |slice o es=>
  cases o with
  |nil=>obtain⟨rfl,_⟩:=h; rfl
  |exact=>obtain⟨_,_,_,rfl,_⟩:=h; rfl
  |no=>rcases h with⟨rfl,_⟩|⟨_,_,_,_,rfl,_⟩|⟨_,_,rfl,_⟩ <;> rfl
  |buf b s=>obtain⟨_,_,_,_,rfl,_⟩:=h; rfl
 |eptr cs=>obtain⟨_,_,rfl,_⟩:=h; rfl
 |func fn fi ca=>obtain⟨_,_,rfl,_⟩:=h; rfl
 |iface t d=>obtain⟨_,rfl,_⟩:=h; rfl
 |roomy b s k es=>obtain⟨_,_,_,_,rfl,_⟩:=h; rfl
 |_=>simp only[Rep] at h; subst h; rfl
def frz:D→D
 | .slice _ es=> .slice .no es
 |d=>d
theorem frz_rep {M:MMap} {w:World} {d:D} {v:Value} (h:Rep M w d v):Rep M w (frz d) v:=by
 cases d with
 |slice o es=>
  cases o with
  |nil=>exact .inl h
  |exact=>obtain⟨b,off,size,hv,h⟩:=h; exact .inr (.inl ⟨b,off,_,size,hv,Nat.le_refl _,h⟩)
  |no=>exact h
  |buf b s=>obtain⟨cap,c,e,f,hv,hl,hr,_⟩:=h; exact .inr (.inl ⟨b,0,cap,s,hv,hl,hr⟩)
 |_=>exact h
def cellsD (P:Program) (t:TypeId) (d:D):Option (List D):=
 match aggP P t,szP P t with
 |some true,some n=>match d with| .agg cs=>if cs.length=n then some cs else none|_=>none
 |some false,some 1=>if d.cellQ=true then some [d] else none
 |_,_=>none
theorem cellsD_rep {P:Program} {M:MMap} {w:World} {t:TypeId} {d:D} {cs:List D} {v:Value} (h:cellsD P t d=some cs) (hr:Rep M w d v):
  zf6 M w cs v.cells.toList∧(∀u∈v.cells.toList,u.oneCell'=true)∧szP P t=some v.cells.size:=by
 unfold cellsD at h
 split at h
 ·rename_i n hg hs
  cases d with
  |agg cs'=>
   simp only at h
   split at h
   ·rename_i hl
    cases h
    obtain⟨a,rfl,h1,h2⟩:=hr
    refine⟨h1,h2, ?_⟩
    have:=h1.length
    simp only[Value.cells]
    rw[hs,←hl,this]; simp
   ·cases h
  |_=>cases h
 ·rename_i hg hs
  split at h
  ·rename_i hq
   cases h
   have ho:=hr.oneCell hq
   have hc:v.cells= #[v]:=by cases v <;> first|rfl|cases ho
   rw[hc]
   exact⟨⟨v,[],rfl,hr,rfl⟩,by simpa using ho,by simpa using hs⟩
  ·cases h
 ·cases h
def binI (op:BinOp) (k:IntKind) (a b:Int):Option (Prop×D):=
 match op with
 | .add=>some (True,.int k (k.wrap (a+b)))
 | .sub=>some (True,.int k (k.wrap (a-b)))
 | .mul=>some (True,.int k (k.wrap (a*b)))
 | .quo=>some (b≠0,.int k (k.wrap (a.tdiv b)))
 | .rem=>some (b≠0,.int k (a.tmod b))
 | .and=>some (True,.int k (k.wrap (BitVec.ofInt k.bits a&&& BitVec.ofInt k.bits b).toNat))
 | .or=>some (True,.int k (k.wrap (BitVec.ofInt k.bits a|||BitVec.ofInt k.bits b).toNat))
 | .xor=>some (True,.int k (k.wrap (BitVec.ofInt k.bits a ^^^ BitVec.ofInt k.bits b).toNat))
 | .andNot=>some (True,.int k (k.wrap (BitVec.ofInt k.bits a&&& ~~~ BitVec.ofInt k.bits b).toNat))
 | .eql=>some (True,.bool (decide (a=b)))
 | .neq=>some (True,.bool (!decide (a=b)))
 | .lss=>some (True,.bool (decide (a<b)))
 | .leq=>some (True,.bool (decide (a≤b)))
 | .gtr=>some (True,.bool (decide (a>b)))
 | .geq=>some (True,.bool (decide (a≥b)))
 | .shl| .shr=>none
def ptrP (P:Program) (t:TypeId):Bool:=match P.underlying t with|some (.pointer _)=>true|_=>false
def fncP (P:Program) (t:TypeId):Bool:=match P.underlying t with|some (.func _ _ _)=>true|_=>false
def nilE (P:Program) (xt:TypeId):D→D→Option Bool
 | .nilptr,.nilptr=>if ptrP P xt=true then some true else none
 | .ptr _ _,.nilptr=>if ptrP P xt=true then some false else none
 | .eptr _,.nilptr=>if ptrP P xt=true then some false else none
 | .nilfunc,.nilfunc=>if fncP P xt=true then some true else none
 | .func _ _ _,.nilfunc=>if fncP P xt=true then some false else none
 |_,_=>none
def binD (P:Program) (op:BinOp) (xt:TypeId):D→D→Option (Prop×D)
 | .int k a,.int k' b=>
  match op with
  | .shl=>some (0≤b,.int k (k.wrap (a*2^(min b.toNat k.bits))))
  | .shr=>some (0≤b,.int k (a.fdiv (2^(min b.toNat k.bits))))
  |op=>if k=k' then binI op k a b else none
 | .str a,.str b=>
  match op with
  | .add=>some (a.size+b.size≤9223372036854775807,.str (a++b))
  | .eql=>some (True,.bool (decide (a=b)))
  | .neq=>some (True,.bool (!decide (a=b)))
  |_=>none
 | .bool a,.bool b=>
  match op,boolP P xt with
  | .eql,true=>some (True,.bool (a==b))
  | .neq,true=>some (True,.bool (a !=b))
  |_,_=>none
 | .agg a,.agg b=>
  match op,eqGP P xt,eqV P 10 xt (.agg a) (.agg b) with
  | .eql,true,some r=>some (True,.bool r)
  | .neq,true,some r=>some (True,.bool (!r))
  |_,_,_=>none
 |x,y=>
  match op,nilE P xt x y with
  | .eql,some r=>some (True,.bool r)
  | .neq,some r=>some (True,.bool (!r))
  |_,_=>none
def unD (op:UnOp):D→Option D
 | .int k n=>match op with
  | .neg=>some (.int k (k.wrap (0-n)))
  |_=>none
 | .bool b=>match op with| .not=>some (.bool !b)|_=>none
 |_=>none
def convD (P:Program) (src dst:TypeId):D→Option D
 | .int _ n=>match ze5 P src,intP P dst with|true,some k=>some (.int k (k.wrap n))|_,_=>none
 | .str s=>match strP P src,strP P dst with|true,true=>some (.str s)|_,_=>none
 |_=>none
def layD (cells:List D) (off:Nat) (part:List D):List D:=cells.take off++part++cells.drop (off+part.length)
def fillD (place:Nat→Option (Nat×TypeId)) (P:Program) (T:Env) (fz:D→D):List (Nat×Operand)→List D→Option (List D)
 |[],cells=>some cells
 |(i,x)::rest,cells=>
  match place i with
  |none=>none
  |some (off,t)=>
   match cellsD P t (ev T x) with
   |some cs=>if off+cs.length≤cells.length then fillD place P T fz rest (layD cells off (cs.map fz)) else none
   |none=>none
def buildP (P:Program) (t:TypeId):Option (Option (TypeId×Nat)):=
 match P.underlying t with
 |some (.struct fs)=>if fs.toList.all (fun f=>(szP P f.type).isSome) then some none else none
 |some (.array _ e)=>(szP P e).map fun n=>some (e,n)
 |_=>none
def pickD (t:Bool) (a b:D):D:=
 match a,b with
 | .bool x,.bool y=> .bool (if t=true then x else y)
 |a,b=>if t=true then a else b
theorem pickD_eq (t:Bool) (a b:D):pickD t a b=if t=true then a else b:=by
 unfold pickD
 split
 ·cases t <;> rfl
 ·rfl
def toInt? :D→Option Int
 | .int _ n=>some n
 |_=>none
def indexD (P:Program) (t:TypeId) (x:D) (i:Int):Option (Prop×D):=
 match x with
 | .slice _ es=>match sliP P t with
  |some e=>match szP P e with
   |some n=>some ((0≤i∧i<es.length)∧(es[i.toNat]?.getD []).length=n,.eptr (es[i.toNat]?.getD []))
   |none=>none
  |none=>none
 | .bsl b off len _=>match sliP P t with
  |some e=>match szP P e with
   |some n=>some (0≤i∧i<len,.ptr b (off+i.toNat*n))
   |none=>none
  |none=>none
 | .ptr b off=>match arrP P t with
  |some (k,e)=>match szP P e with
   |some n=>some (0≤i∧i<k,.ptr b (off+i.toNat*n))
   |none=>none
  |none=>none
 | .eptr cs=>match arrP P t with
  |some (k,e)=>match szP P e with
   |some n=>some (0≤i∧i<k,.eptr (cs.drop (i.toNat*n)))
   |none=>none
  |none=>none
 |_=>none
def lenD (P:Program) (t:TypeId):D→Option D
 | .slice _ es=>match sliP P t with|some _=>some (.int .i64 es.length)|none=>none
 | .bsl _ _ n _=>match sliP P t with|some _=>some (.int .i64 n)|none=>none
 | .str s=>if strP P t=true then some (.int .i64 s.size) else none
 | .agg _=>match arrP P t with|some (n,_)=>some (.int .i64 n)|none=>none
 |_=>none
def bslD (P:Program) (t:TypeId) (b off:Nat) (l h:Int):Option (Prop×D):=
 match arrP P t with
 |some (n,e)=>match szP P e with
  |some s=>some (0≤l∧l≤h∧h≤n,.bsl b (if n=l.toNat then off else off+l.toNat*s) (h.toNat-l.toNat) (n-l.toNat))
  |none=>none
 |none=>none
def pureD (P:Program) (op:Op) (T:Env):Option (Prop×D):=
 match op with
 | .move x| .assign x=>some (True,ev T x)
 | .pick c a b=>match ev T c with| .bool t=>some (True,pickD t (ev T a) (ev T b))|_=>none
 | .binOp op xt x y _=>binD P op xt (ev T x) (ev T y)
 | .unOp op _ x=>(unD op (ev T x)).map fun d=>(True,d)
 | .convert src dst x=>(convD P src dst (ev T x)).map fun d=>(True,d)
 | .makeInterface t x=>if zf7 P t=true then some (True,.iface t (ev T x)) else none
 | .makeFunc fn first captured=>some (True,.func fn (first.toList.map (ev T)) (captured.toList.map (ev T)))
 | .extract x i=>match ev T x with| .tup ds=>(ds[i]?).map fun d=>(True,d)|_=>none
 | .field t x f=>match ev T x,fldP P t f with| .agg cs,some (off,ft)=>(partD P ft cs off).map fun d=>(True,d)|_,_=>none
 | .fieldAddr t x f=>match ev T x,fldP P t f with
  | .ptr b off,some (o,_)=>some (True,.ptr b (off+o))
  | .eptr cs,some (o,_)=>some (True,.eptr (cs.drop o))
  |_,_=>none
 | .indexAddr t x i=>match ev T i with| .int _ n=>indexD P t (ev T x) n|_=>none
 | .index t x i=>match ev T i with
  | .int _ n=>match ev T x with
   | .str s=>if strP P t=true then some (0≤n∧n<s.size,.int .u8 ((s.data.toList[n.toNat]?.getD 0).toNat)) else none
   | .agg cs=>match arrP P t with
    |some (k,e)=>match szP P e with
     |some m=>(partD P e cs (n.toNat*m)).map fun d=>(0≤n∧n<k,d)
     |none=>none
    |none=>none
   |_=>none
  |_=>none
 | .nilCheck x=>match ev T x with
  | .ptr b off=>some (True,.ptr b off)
  | .eptr cs=>some (True,.eptr cs)
  | .slice o es=>some (True,.slice o es)
  | .func (.func f) a b=>some (True,.func (.func f) a b)
  |_=>none
 | .build t parts=>match buildP P t,zf4 P t with
  |some none,some z=>(fillD (fldP P t) P T id parts.toList z).map fun cs=>(True,.agg cs)
  |some (some (e,n)),some z=>(fillD (fun i=>some (i*n,e)) P T id parts.toList z).map fun cs=>(True,.agg cs)
  |_,_=>none
 | .load t x=>match ev T x with
  | .eptr cs=>(partD P t cs 0).map fun d=>(True,d)
  |_=>none
 | .call {callee:= .builtin .len,args,argTypes}=>match args.toList,argTypes.toList with
  |[x],[t]=>(lenD P t (ev T x)).map fun d=>(True,d)
  |_,_=>none
 | .call {callee:= .builtin .min,args,..}=>match args.toList with
  |[x,y]=>match ev T x,ev T y with| .int k a,.int k' b=>if k=k' then some (True,.int k (min a b)) else none|_,_=>none
  |_=>none
 | .call {callee:= .builtin .max,args,..}=>match args.toList with
  |[x,y]=>match ev T x,ev T y with| .int k a,.int k' b=>if k=k' then some (True,.int k (max a b)) else none|_,_=>none
  |_=>none
 | .slice t x lo hi none=>match ev T x with
  | .slice _ es=>match sliP P t with
   |some e=>match szP P e with
    |some n=>
     match (match lo with|some l=>toInt? (ev T l)|none=>some 0),(match hi with|some h=>toInt? (ev T h)|none=>some (es.length:Int)) with
     |some l,some h=>some ((0≤l∧l≤h∧h≤es.length)∧∀e∈es,e.length=n,.slice .no ((es.take h.toNat).drop l.toNat))
     |_,_=>none
    |none=>none
   |none=>none
  | .str s=>if strP P t=true then
    match (match lo with|some l=>toInt? (ev T l)|none=>some 0),(match hi with|some h=>toInt? (ev T h)|none=>some (s.size:Int)) with
    |some l,some h=>some (0≤l∧l≤h∧h≤s.size,.str (s.extract l.toNat h.toNat))
    |_,_=>none
   else none
  | .ptr b off=>match arrP P t with
   |some (n,_)=>match (match lo with|some l=>toInt? (ev T l)|none=>some 0),(match hi with|some h=>toInt? (ev T h)|none=>some (n:Int)) with
    |some l,some h=>bslD P t b off l h
    |_,_=>none
   |none=>none
  |_=>none
 |_=>none
end Go.AL
namespace Go.AL
section
variable {P : Program} {N : Nat} {M : MMap} {T : Env} {σ : St} {a : Act} {w : World}
theorem toList_beq (a b:ByteArray):(a.toList==b.toList)=decide (a=b):=by
 rw[ByteArray.toList_eq,ByteArray.toList_eq]
 by_cases h:a=b
 ·subst h; simp
 ·have:a.data.toList≠b.data.toList:=fun h'=>h (by cases a; cases b; simp_all[Array.toList_inj])
  rw[decide_eq_false h]
  exact beq_eq_false_iff_ne.2 this
theorem binI_sound {op:BinOp} {k:IntKind} {x y:Int} {xt:TypeId} {side:Prop} {d:D} (h:binI op k x y=some (side,d)) (hs:side) (w:World):
  ∃v,(binOp op xt (.int k x) (.int k y)).run P w= .ok v w∧Rep M w d v:=by
 cases op <;> simp only[binI,Option.some.injEq,Prod.mk.injEq,reduceCtorEq] at h <;> obtain⟨rfl,rfl⟩:=h
 case quo=>exact⟨_,(by simp[binOp,Op.intDiv,hs]; try rfl),rfl⟩
 case rem=>exact⟨_,(by simp[binOp,Op.intDiv,hs]; try rfl),rfl⟩
 case eql=>exact⟨_,(by simp[binOp,Op.intCmp]; try rfl),by simp[Rep]; rfl⟩
 case neq=>exact⟨_,(by simp[binOp,Op.intCmp]; try rfl),by simp only[Rep]; rfl⟩
 case and=>exact⟨_,(by simp[binOp,Op.intBits]; try rfl),rfl⟩
 case or=>exact⟨_,(by simp[binOp,Op.intBits]; try rfl),rfl⟩
 case xor=>exact⟨_,(by simp[binOp,Op.intBits]; try rfl),rfl⟩
 case andNot=>exact⟨_,(by simp[binOp,Op.intBits]; try rfl),rfl⟩
 all_goals exact⟨_,(by simp[binOp,Op.intArith,Op.intCmp]; try rfl),by simp[Rep]⟩
theorem nilE_sound {xt:TypeId} {x y:D} {r:Bool} (h:nilE P xt x y=some r) {u v:Value} (hx:Rep M w x u) (hy:Rep M w y v):
  ((binOp .eql xt u v).run P w= .ok (.bool r) w∧(binOp .neq xt u v).run P w= .ok (.bool !r) w)∧∀(op:BinOp) (ox oy:Operand),(eqGuard op xt ox oy u v).run P w= .ok () w:=by
 have und_ptr:ptrP P xt=true→∃e,P.underlying xt=some (.pointer e):=fun h=>by
  unfold ptrP at h; split at h
  ·exact⟨_,by assumption⟩
  ·cases h
 have und_fnc:fncP P xt=true→∃a b c,P.underlying xt=some (.func a b c):=fun h=>by
  unfold fncP at h; split at h
  ·exact⟨_,_,_,by assumption⟩
  ·cases h
 unfold nilE at h
 split at h
 ·split at h
  ·rename_i hp
   cases h
   obtain⟨e,hu⟩:=und_ptr hp
   obtain rfl:=hx; obtain rfl:=hy
   have h1:(Op.equal xt (.pointer none) (.pointer none)).run P w= .ok true w:=by
    show(Op.equalIn (9999+1) _ _ _).run P w=_
    rw[Op.equalIn]; simp[run_underlying hu]
   exact⟨⟨by simp[binOp,h1],by simp[binOp,h1]⟩,fun op ox oy=>by simp[eqGuard]⟩
  ·cases h
 ·split at h
  ·rename_i hp
   cases h
   obtain⟨e,hu⟩:=und_ptr hp
   obtain rfl:=hx; obtain rfl:=hy
   have h1:∀a,(Op.equal xt (.pointer (some a)) (.pointer none)).run P w= .ok false w:=fun a=>by
    show(Op.equalIn (9999+1) _ _ _).run P w=_
    rw[Op.equalIn]; simp[run_underlying hu]
   exact⟨⟨by simp[binOp,h1],by simp[binOp,h1]⟩,fun op ox oy=>by simp[eqGuard]⟩
  ·cases h
 ·split at h
  ·rename_i hp
   cases h
   obtain⟨e,hu⟩:=und_ptr hp
   obtain⟨_,_,rfl,_⟩:=hx; obtain rfl:=hy
   have h1:∀a,(Op.equal xt (.pointer (some a)) (.pointer none)).run P w= .ok false w:=fun a=>by
    show(Op.equalIn (9999+1) _ _ _).run P w=_
    rw[Op.equalIn]; simp[run_underlying hu]
   exact⟨⟨by simp[binOp,h1],by simp[binOp,h1]⟩,fun op ox oy=>by simp[eqGuard]⟩
  ·cases h
 ·split at h
  ·rename_i hp
   cases h
   obtain⟨a,b,c,hu⟩:=und_fnc hp
   obtain rfl:=hx; obtain rfl:=hy
   have h1:(Op.equal xt (.nilFunc) (.nilFunc)).run P w= .ok true w:=by
    show(Op.equalIn (9999+1) _ _ _).run P w=_
    rw[Op.equalIn]; simp[run_underlying hu]
   exact⟨⟨by simp[binOp,h1],by simp[binOp,h1]⟩,fun op ox oy=>by simp[eqGuard]⟩
  ·cases h
 ·split at h
  ·rename_i hp
   cases h
   obtain⟨a,b,c,hu⟩:=und_fnc hp
   obtain⟨_,_,rfl,_⟩:=hx; obtain rfl:=hy
   have h1:∀a b c,(Op.equal xt (.func a b c) (.nilFunc)).run P w= .ok false w:=fun a b c=>by
    show(Op.equalIn (9999+1) _ _ _).run P w=_
    rw[Op.equalIn]; simp[run_underlying hu]
   exact⟨⟨by simp[binOp,h1],by simp[binOp,h1]⟩,fun op ox oy=>by simp[eqGuard]⟩
  ·cases h
 ·cases h
theorem binD_sound {op:BinOp} {xt:TypeId} {x y:D} {side:Prop} {d:D} (h:binD P op xt x y=some (side,d)) (hs:side) {u v:Value} (hx:Rep M w x u) (hy:Rep M w y v):
  (∃r,(binOp op xt u v).run P w= .ok r w∧Rep M w d r)∧∀ox oy:Operand,(eqGuard op xt ox oy u v).run P w= .ok () w:=by
 unfold binD at h
 split at h
 ·rename_i k a k' b
  obtain rfl:=hx
  obtain rfl:=hy
  refine⟨?_,fun ox oy=>by simp[eqGuard]⟩
  split at h
  ·simp only[Option.some.injEq,Prod.mk.injEq] at h; obtain⟨rfl,rfl⟩:=h
   exact⟨_,(by simp[binOp,Op.shift,show ¬b<0 by omega]; try rfl),rfl⟩
  ·simp only[Option.some.injEq,Prod.mk.injEq] at h; obtain⟨rfl,rfl⟩:=h
   exact⟨_,(by simp[binOp,Op.shift,show ¬b<0 by omega]; try rfl),rfl⟩
  ·split at h
   ·rename_i hk; subst hk; exact binI_sound h hs w
   ·cases h
 ·rename_i a b
  obtain rfl:=hx
  obtain rfl:=hy
  refine⟨?_,fun ox oy=>by simp[eqGuard]⟩
  split at h
  ·simp only[Option.some.injEq,Prod.mk.injEq] at h; obtain⟨rfl,rfl⟩:=h
   exact⟨_,(by simp[binOp,run_string_add_sum w a b hs]; try rfl),rfl⟩
  ·simp only[Option.some.injEq,Prod.mk.injEq] at h; obtain⟨rfl,rfl⟩:=h
   exact⟨_,(by simp[binOp,Op.stringOp]; try rfl),by simp only[Rep,toList_beq]⟩
  ·simp only[Option.some.injEq,Prod.mk.injEq] at h; obtain⟨rfl,rfl⟩:=h
   exact⟨_,(by simp[binOp,Op.stringOp]; try rfl),by simp only[Rep,toList_beq]⟩
  ·cases h
 ·rename_i a b
  obtain rfl:=hx
  obtain rfl:=hy
  refine⟨?_,fun ox oy=>by simp[eqGuard]⟩
  split at h
  ·rename_i hb
   simp only[Option.some.injEq,Prod.mk.injEq] at h; obtain⟨rfl,rfl⟩:=h
   exact⟨_,(by simp[binOp,run_equal_bool w xt a b (und_of_bool hb)]; try rfl),rfl⟩
  ·rename_i hb
   simp only[Option.some.injEq,Prod.mk.injEq] at h; obtain⟨rfl,rfl⟩:=h
   exact⟨_,(by simp[binOp,run_equal_bool w xt a b (und_of_bool hb)]; try rfl),by simp only[Rep]; rfl⟩
  ·cases h
 ·rename_i a b
  obtain⟨us,rfl,rx,ox⟩:=hx
  obtain⟨vs,rfl,ry,oy⟩:=hy
  have hq:∀r,eqV P 10 xt (.agg a) (.agg b)=some r→(Op.equalIn 10000 xt (.agg us) (.agg vs)).run P w= .ok r w:=fun r hr=>
   eqV_sound (P:=P) (M:=M) (w:=w) 9990 10 xt _ _ r _ _ w hr ⟨us,rfl,rx,ox⟩ ⟨vs,rfl,ry,oy⟩
  split at h
  ·rename_i r hg hr
   simp only[Option.some.injEq,Prod.mk.injEq] at h; obtain⟨rfl,rfl⟩:=h
   have hg':P.eqGuardType P.depth xt=false:=by simpa[eqGP] using hg
   exact⟨⟨_,by rw[run_eql_struct,hq r hr]; rfl,rfl⟩,fun ox oy=>run_eqGuard_agg w _ xt ox oy us vs hg'⟩
  ·rename_i r hg hr
   simp only[Option.some.injEq,Prod.mk.injEq] at h; obtain⟨rfl,rfl⟩:=h
   have hg':P.eqGuardType P.depth xt=false:=by simpa[eqGP] using hg
   exact⟨⟨_,by rw[run_neq_struct,hq r hr]; rfl,rfl⟩,fun ox oy=>run_eqGuard_agg w _ xt ox oy us vs hg'⟩
  ·cases h
 ·split at h
  ·rename_i r hr
   simp only[Option.some.injEq,Prod.mk.injEq] at h; obtain⟨rfl,rfl⟩:=h
   obtain⟨h1,h2⟩:=nilE_sound hr hx hy
   exact⟨⟨_,h1.1,rfl⟩,h2 .eql⟩
  ·rename_i r hr
   simp only[Option.some.injEq,Prod.mk.injEq] at h; obtain⟨rfl,rfl⟩:=h
   obtain⟨h1,h2⟩:=nilE_sound hr hx hy
   exact⟨⟨_,h1.2,rfl⟩,h2 .neq⟩
  ·cases h
theorem concP_ne {t:TypeId} (h:zf7 P t=true):∃d,P.underlying t=some d∧∀ms,d≠ .interface ms:=by
 unfold zf7 at h
 split at h
 ·cases h
 ·rename_i d hd hu
  exact⟨d,hu,fun ms hm=>by subst hm; exact hd ms rfl⟩
 ·cases h
theorem indexD_sound {t:TypeId} {x:D} {i:Int} {k:IntKind} {side:Prop} {d:D} (h:indexD P t x i=some (side,d)) (hs:side) {u:Value} (hx:Rep M w x u):
  ∃r,(Instr.indexAt t u (.int k i)).run P w= .ok r w∧Rep M w d r:=by
 unfold indexD at h
 split at h
 ·rename_i o es
  split at h
  ·rename_i e he
   split at h
   ·rename_i n hn
    simp only[Option.some.injEq,Prod.mk.injEq] at h; obtain⟨rfl,rfl⟩:=h
    obtain⟨⟨h0,h1⟩,hl⟩:=hs
    have hin:i.toNat<es.length:=by omega
    have hget:es[i.toNat]? =some es[i.toNat]:=by simp[hin]
    have key:∃b off cap size,u= .slice (some ⟨b,off,none⟩) es.length cap∧RepRows M w es b off size:=by
     cases o with
     |nil=>obtain⟨_,rfl⟩:=hx; simp at hin
     |exact=>obtain⟨b,off,size,hv,hr⟩:=hx; exact⟨b,off,_,size,hv,hr⟩
     |no=>
      rcases hx with⟨_,rfl⟩|⟨b,off,cap,size,hv,_,hr⟩|⟨_,_,_,rfl⟩
      ·simp at hin
      ·exact⟨b,off,cap,size,hv,hr⟩
      ·simp at hin
     |buf b s=>obtain⟨cap,_,_,_,hv,_,hr,_⟩:=hx; exact⟨b,0,cap,s,hv,hr⟩
    obtain⟨b,off,cap,size,rfl,hr⟩:=key
    obtain⟨hsz,hc⟩:=hr.get hget
    rw[hget] at hl ⊢
    simp only[Option.getD_some] at hl ⊢
    have hne:n=size:=hl.symm.trans hsz
    subst hne
    refine⟨.pointer (some ⟨b,off+i.toNat*n,none⟩), ?_,b,_,rfl,hc⟩
    have hadd:Addr.add ⟨b,off,none⟩ (i.toNat*n)=⟨b,off+i.toNat*n,none⟩:=by unfold Addr.add; split <;> simp_all
    simp[Instr.indexAt,asIntOf,run_underlying (und_of_sli he),h0,h1,run_sizeOf hn,hadd]
   ·cases h
  ·cases h
 ·rename_i b off len cap
  obtain rfl:=hx
  split at h
  ·rename_i e he
   split at h
   ·rename_i n hn
    simp only[Option.some.injEq,Prod.mk.injEq] at h; obtain⟨rfl,rfl⟩:=h
    have hadd:Addr.add ⟨b,off,none⟩ (i.toNat*n)=⟨b,off+i.toNat*n,none⟩:=by unfold Addr.add; split <;> simp_all
    exact⟨_,(by simp[Instr.indexAt,asIntOf,run_underlying (und_of_sli he),hs.1,hs.2,run_sizeOf hn,hadd]; try rfl),rfl⟩
   ·cases h
  ·cases h
 ·rename_i b off
  obtain rfl:=hx
  split at h
  ·rename_i m e he
   split at h
   ·rename_i n hn
    simp only[Option.some.injEq,Prod.mk.injEq] at h; obtain⟨rfl,rfl⟩:=h
    have hadd:Addr.add ⟨b,off,none⟩ (i.toNat*n)=⟨b,off+i.toNat*n,none⟩:=by unfold Addr.add; split <;> simp_all
    exact⟨_,(by simp[Instr.indexAt,Instr.sureAddr,asIntOf,run_underlying (und_of_arr he),hs.1,hs.2,run_sizeOf hn,hadd]; try rfl),rfl⟩
   ·cases h
  ·cases h
 ·rename_i cs
  obtain⟨b,off,rfl,hc⟩:=hx
  split at h
  ·rename_i m e he
   split at h
   ·rename_i n hn
    simp only[Option.some.injEq,Prod.mk.injEq] at h; obtain⟨rfl,rfl⟩:=h
    have hadd:Addr.add ⟨b,off,none⟩ (i.toNat*n)=⟨b,off+i.toNat*n,none⟩:=by unfold Addr.add; split <;> simp_all
    exact⟨_,(by simp[Instr.indexAt,Instr.sureAddr,asIntOf,run_underlying (und_of_arr he),hs.1,hs.2,run_sizeOf hn,hadd]; try rfl),b,_,rfl,hc.drop _⟩
   ·cases h
  ·cases h
 ·cases h
theorem toInt?_rep {x:D} {n:Int} (h:toInt? x=some n) {u:Value} (hx:Rep M w x u):∃k,u= .int k n:=by
 cases x <;> simp only[toInt?,reduceCtorEq,Option.some.injEq] at h
 subst h; exact⟨_,hx⟩
theorem rows_of_slice {o:Own} {es:List (List D)} {u:Value} (hx:Rep M w (.slice o es) u):
  (u= .slice none 0 0∧es=[])∨(∃b off cap size,u= .slice (some ⟨b,off,none⟩) es.length cap∧es.length≤cap∧RepRows M w es b off size)∨∃a cap,u= .slice (some a) 0 cap∧es=[]:=by
 cases o with
 |nil=>exact .inl hx
 |exact=>obtain⟨b,off,size,hv,hr⟩:=hx; exact .inr (.inl ⟨b,off,_,size,hv,Nat.le_refl _,hr⟩)
 |no=>exact hx
 |buf b s=>obtain⟨cap,_,_,_,hv,hl,hr,_⟩:=hx; exact .inr (.inl ⟨b,0,cap,s,hv,hl,hr⟩)
theorem lenD_sound {t ty:TypeId} {x d:D} (h:lenD P t x=some d) {u:Value} (hx:Rep M w x u):
  ∃r,(Builtin.len_ #[t] ty #[u]).run P w= .ok r w∧Rep M w d r:=by
 unfold lenD at h
 split at h
 ·rename_i o es
  split at h
  ·rename_i e he
   cases h
   rcases rows_of_slice hx with⟨rfl,rfl⟩|⟨b,off,cap,size,rfl,hl,hr⟩|⟨a,cap,rfl,rfl⟩
   ·exact⟨_,(by simp[Builtin.len_,run_underlying (und_of_sli he)]; try rfl),rfl⟩
   ·exact⟨_,(by simp[Builtin.len_,run_underlying (und_of_sli he)]; try rfl),rfl⟩
   ·exact⟨_,(by simp[Builtin.len_,run_underlying (und_of_sli he)]; try rfl),rfl⟩
  ·cases h
 ·obtain rfl:=hx
  split at h
  ·rename_i e he
   cases h
   exact⟨_,(by simp[Builtin.len_,run_underlying (und_of_sli he)]; try rfl),rfl⟩
  ·cases h
 ·obtain rfl:=hx
  split at h
  ·rename_i hs
   cases h
   exact⟨_,(by simp[Builtin.len_,run_underlying (und_of_str hs)]; try rfl),rfl⟩
  ·cases h
 ·split at h
  ·rename_i n e he
   cases h
   exact⟨_,(by simp[Builtin.len_,run_underlying (und_of_arr he)]; try rfl),rfl⟩
  ·cases h
 ·cases h
theorem foldl_set (a:Array Value) (off:Nat):∀(l:List Value) (k:Nat) (cur:Array Value),off+k+l.length≤cur.size→
  ((l.zipIdx k).foldl (fun cs (p:Value×Nat)=>cs.setIfInBounds (off+p.2) p.1) cur).toList=cur.toList.take (off+k)++l++cur.toList.drop (off+k+l.length)
 |[],k,cur,h=>by simp
 |v::l,k,cur,h=>by
  simp only[List.length_cons] at h
  simp only[List.zipIdx_cons,List.foldl_cons]
  rw[foldl_set a off l (k+1) _ (by simp; omega)]
  simp only[Array.toList_setIfInBounds,List.length_cons]
  have hlt:off+k<cur.toList.length:=by simp; omega
  rw[show off+(k+1)=(off+k)+1 by omega,List.take_succ_eq_append_getElem (by simpa using hlt)]
  simp only[List.getElem_set_self,List.take_set_of_le (Nat.le_refl _)]
  rw[List.drop_set_of_lt (by omega)]
  simp[List.append_assoc,show off+k+1+l.length=off+k+(l.length+1) by omega]
theorem fill_sound [DSt] {place:Nat→Option (Nat×TypeId)} {pl:Nat→Option (Nat×Nat)} {fz:D→D} (hfz:∀d v,Rep M w d v→Rep M w (fz d) v)
  (hp:∀i off t,place i=some (off,t)→∃n,pl i=some (off,n)∧szP P t=some n) (hi:AInv N M T σ a w):
  ∀(parts:List (Nat×Operand)) (cells out:List D),fillD place P T fz parts cells=some out→∀(cur:Array Value),zf6 M w cells cur.toList→(∀u∈cur.toList,u.oneCell'=true)→
   ∃res,Instr.fill pl cur (parts.map fun(i,x)=>(i,a.eval x))=some res∧zf6 M w out res.toList∧∀u∈res.toList,u.oneCell'=true
 |[],cells,out,h,cur,hr,h1=>by
  simp only[fillD,Option.some.injEq] at h; subst h
  exact⟨cur,rfl,hr,h1⟩
 |(i,x)::rest,cells,out,h,cur,hr,h1=>by
  simp only[fillD] at h
  split at h
  ·cases h
  ·rename_i off t hpl
   obtain⟨n,hpl',hn⟩:=hp _ _ _ hpl
   split at h
   ·rename_i cs hcs
    split at h
    ·rename_i hle
     obtain⟨c1,c2,c3⟩:=cellsD_rep hcs (ev_rep hi x)
     have hsz:(a.eval x).cells.size=n:=Option.some.inj (c3.symm.trans hn)
     have hlen:cs.length=n:=by rw[c1.length,←hsz]; simp
     have hcur:cells.length=cur.size:=by rw[hr.length]; simp
     have hf:=foldl_set cur off (a.eval x).cells.toList 0 cur (by simp; omega)
     obtain⟨cur',hcur'⟩:∃c,c=(a.eval x).cells.zipIdx.foldl (fun cs (c,j)=>cs.setIfInBounds (off+j) c) cur:=⟨_,rfl⟩
     have e:cur'.toList=cur.toList.take off++(a.eval x).cells.toList++cur.toList.drop (off+cs.length):=by
      rw[hcur',←Array.foldl_toList]
      simp only[Array.toList_zipIdx]
      rw[hf]
      simp[hlen,hsz]
     have g1:zf6 M w (layD cells off (cs.map fz)) cur'.toList:=by
      rw[e]
      simp only[layD,List.length_map]
      refine((hr.take off).append ?_).append (hr.drop _)
      refine(zf6.iff _ _).2 ⟨by simpa using c1.length,fun j d v hd hv=> ?_⟩
      simp only[List.getElem?_map,Option.map_eq_some_iff] at hd
      obtain⟨d',hd',rfl⟩:=hd
      exact hfz _ _ (((zf6.iff _ _).1 c1).2 j d' v hd' hv)
     have g2:∀u∈cur'.toList,u.oneCell'=true:=by
      rw[e]
      intro u hu
      simp only[List.mem_append] at hu
      rcases hu with(hu|hu)|hu
      ·exact h1 u (List.mem_of_mem_take hu)
      ·exact c2 u hu
      ·exact h1 u (List.mem_of_mem_drop hu)
     obtain⟨res,r1,r2,r3⟩:=fill_sound hfz hp hi rest _ out h cur' g1 g2
     refine⟨res, ?_,r2,r3⟩
     simp only[List.map_cons,Instr.fill,hpl']
     rw[if_neg (by simp only[Bool.or_eq_true,bne_iff_ne,decide_eq_true_eq,ne_eq]; omega),←hcur']
     exact r1
    ·cases h
   ·cases h
end
end Go.AL
namespace Go.AL
section
variable {P : Program} {N : Nat} {M : MMap} {T : Env} {σ : St} {a : Act} {w : World}
variable [DSt]
theorem map_some_pair {α:Type} {o:Option α} {p:Prop} {side:Prop} {d:α} (h:o.map (fun d=>(p,d))=some (side,d)):o=some d∧side=p:=by
 cases o <;> simp at h
 exact⟨by rw[h.2],propext h.1.symm⟩
theorem repAll_ops (hi:AInv N M T σ a w) (l:List Operand):zf6 M w (l.map (ev T)) (l.map a.eval):=
 zf6.map _ _ _ fun x _=>ev_rep hi x
theorem cD_zero {t:TypeId} {z:List D} (h:zf4 P t=some z) (M:MMap) (w:World):∃v,(zeroValue t).run P w= .ok v w∧z=v.cells.toList.map cD∧zf6 M w z v.cells.toList∧∀u∈v.cells.toList,u.oneCell'=true:=by
 simp only[zf4,Option.bind_eq_some_iff] at h
 obtain⟨i,hi,v,hv,h⟩:=h
 split at h
 ·rename_i hall
  cases h
  refine⟨v,by simp[zeroValue,typeInfo,hi,hv],rfl, ?_,fun u hu=>List.all_eq_true.1 hall u hu⟩
  refine(zf6.iff _ _).2 ⟨by simp,fun j d u hd hu=> ?_⟩
  simp only[List.getElem?_map,Option.map_eq_some_iff] at hd
  obtain⟨u',hu',rfl⟩:=hd
  rw[hu] at hu'; cases hu'
  exact cD_rep _ _ _
 ·cases h
theorem slice_sound {t e:TypeId} {n:Nat} (he:sliP P t=some e) (hn:szP P e=some n) {o:Own} {es:List (List D)} {u:Value} (hx:Rep M w (.slice o es) u) {l h:Int}
  (h0:0≤l) (h1:l≤h) (h2:h≤es.length) (hrow:∀e∈es,e.length=n) (lo hi:Option Value)
  (hlo:(lo=none∧l=0)∨∃k,lo=some (.int k l)) (hhi:(hi=none∧h=es.length)∨∃k,hi=some (.int k h)):
  ∃v,(Instr.sliceAt t u lo hi none).run P w= .ok v w∧Rep M w (.slice .no ((es.take h.toNat).drop l.toNat)) v:=by
 have hund:=und_of_sli he
 obtain⟨a,len,cap,rfl,hlen,hcap,hrep⟩:∃a len cap,u= .slice a len cap∧len=es.length∧len≤cap∧((a=none∧es=[]∧cap=0)∨(∃b off size,a=some ⟨b,off,none⟩∧RepRows M w es b off size)∨∃a',a=some a'∧es=[]):=by
  rcases rows_of_slice hx with⟨rfl,rfl⟩|⟨b,off,cap,size,rfl,hl,hr⟩|⟨a',cap,rfl,rfl⟩
  ·exact⟨none,0,0,rfl,rfl,Nat.le_refl _,.inl ⟨rfl,rfl,rfl⟩⟩
  ·exact⟨_,_,cap,rfl,rfl,hl,.inr (.inl ⟨b,off,size,rfl,hr⟩)⟩
  ·exact⟨_,0,cap,rfl,rfl,Nat.zero_le _,.inr (.inr ⟨a',rfl,rfl⟩)⟩
 have hb:(Instr.sliceBounds true len cap lo hi none).run P w= .ok (l.toNat,h.toNat,cap) w:=by
  rcases hlo with⟨rfl,rfl⟩|⟨k,rfl⟩ <;> rcases hhi with⟨rfl,rfl⟩|⟨k',rfl⟩
  ·simp[Instr.sliceBounds,hlen]
  ·simp[Instr.sliceBounds,Instr.sliceBound,asIntOf,show 0≤h∧h≤(cap:Int) by omega]
  ·simp[Instr.sliceBounds,Instr.sliceBound,asIntOf,hlen,show 0≤l∧l≤(es.length:Int) by omega]
  ·have hm:((h.toNat:Nat):Int)=h:=by omega
   simp[Instr.sliceBounds,Instr.sliceBound,asIntOf,show 0≤h∧h≤(cap:Int) by omega,show 0≤l∧l≤max h 0 by omega]
 have hrun:(Instr.sliceAt t (.slice a len cap) lo hi none).run P w= .ok (.slice (if cap=l.toNat then a else a.map (·.add (l.toNat*n))) (h.toNat-l.toNat) (cap-l.toNat)) w:=by
  simp[Instr.sliceAt,Instr.slice,run_underlying hund,hb,run_sizeOf hn]
 refine⟨_,hrun, ?_⟩
 have hlen':((es.take h.toNat).drop l.toNat).length=h.toNat-l.toNat:=by simp; omega
 rcases hrep with⟨rfl,rfl,rfl⟩|⟨b,off,size,rfl,hr⟩|⟨a',rfl,rfl⟩
 ·left
  simp at h2
  have:h.toNat=0:=by omega
  have:l.toNat=0:=by omega
  simp_all
  omega
 ·right; left
  have hrows:∀{x:Nat},x=off+l.toNat*n→RepRows M w ((es.take h.toNat).drop l.toNat) b x size:=by
   intro x hx
   by_cases hemp:es=[]
   ·subst hemp; simp[RepRows]
   ·obtain⟨e0,he0⟩:∃e0,e0∈es:=by cases es with|nil=>exact absurd rfl hemp|cons a l=>exact⟨a,by simp⟩
    obtain⟨i,hi'⟩:=List.getElem?_of_mem he0
    have hs:size=n:=(hr.get hi').1.symm.trans (hrow e0 he0)
    subst hs; subst hx
    exact(hr.take _).drop _
  by_cases hc:cap=l.toNat
  ·refine⟨b,off,cap-l.toNat,size,by rw[if_pos hc,hlen'],by rw[hlen']; omega, ?_⟩
   have:(es.take h.toNat).drop l.toNat=[]:=by apply List.eq_nil_of_length_eq_zero; rw[hlen']; omega
   rw[this]; trivial
  ·refine⟨b,off+l.toNat*n,cap-l.toNat,size, ?_,by rw[hlen']; omega,hrows rfl⟩
   have hadd:Addr.add ⟨b,off,none⟩ (l.toNat*n)=⟨b,off+l.toNat*n,none⟩:=by unfold Addr.add; split <;> simp_all
   rw[if_neg hc,hlen']; simp[hadd]
 ·right; right
  simp at h2
  have e1:h.toNat=0:=by omega
  have e2:l.toNat=0:=by omega
  by_cases hc:cap=l.toNat
  ·exact⟨a',cap-l.toNat,by rw[if_pos hc]; simp[e1],by simp⟩
  ·exact⟨a'.add (l.toNat*n),cap-l.toNat,by rw[if_neg hc]; simp[e1],by simp⟩
theorem sliceStr_sound {t:TypeId} (he:strP P t=true) {s:ByteArray} {l h:Int}
  (h0:0≤l) (h1:l≤h) (h2:h≤s.size) (lo hi:Option Value)
  (hlo:(lo=none∧l=0)∨∃k,lo=some (.int k l)) (hhi:(hi=none∧h=s.size)∨∃k,hi=some (.int k h)):
  (Instr.sliceAt t (.string s) lo hi none).run P w= .ok (.string (s.extract l.toNat h.toNat)) w:=by
 have hund:=und_of_str he
 have hb:(Instr.sliceBounds false s.size s.size lo hi none).run P w= .ok (l.toNat,h.toNat,s.size) w:=by
  rcases hlo with⟨rfl,rfl⟩|⟨k,rfl⟩ <;> rcases hhi with⟨rfl,rfl⟩|⟨k',rfl⟩
  ·simp[Instr.sliceBounds]
  ·simp[Instr.sliceBounds,Instr.sliceBound,asIntOf,show 0≤h∧h≤(s.size:Int) by omega]
  ·simp[Instr.sliceBounds,Instr.sliceBound,asIntOf,show 0≤l∧l≤(s.size:Int) by omega]
  ·simp[Instr.sliceBounds,Instr.sliceBound,asIntOf,show 0≤h∧h≤(s.size:Int) by omega,show 0≤l∧l≤max h 0 by omega]
 simp[Instr.sliceAt,Instr.slice,run_underlying hund,hb]
theorem sliceArr_sound {t e:TypeId} {n s:Nat} (he:arrP P t=some (n,e)) (hn:szP P e=some s) {b off:Nat} {l h:Int}
  (h0:0≤l) (h1:l≤h) (h2:h≤n) (lo hi:Option Value)
  (hlo:(lo=none∧l=0)∨∃k,lo=some (.int k l)) (hhi:(hi=none∧h=n)∨∃k,hi=some (.int k h)):
  (Instr.sliceAt t (.pointer (some ⟨b,off,none⟩)) lo hi none).run P w= .ok (.slice (some ⟨b,if n=l.toNat then off else off+l.toNat*s,none⟩) (h.toNat-l.toNat) (n-l.toNat)) w:=by
 have hund:=und_of_arr he
 have hb:(Instr.sliceBounds false n n lo hi none).run P w= .ok (l.toNat,h.toNat,n) w:=by
  rcases hlo with⟨rfl,rfl⟩|⟨k,rfl⟩ <;> rcases hhi with⟨rfl,rfl⟩|⟨k',rfl⟩
  ·simp[Instr.sliceBounds]
  ·simp[Instr.sliceBounds,Instr.sliceBound,asIntOf,show 0≤h∧h≤(n:Int) by omega]
  ·simp[Instr.sliceBounds,Instr.sliceBound,asIntOf,show 0≤l∧l≤(n:Int) by omega]
  ·simp[Instr.sliceBounds,Instr.sliceBound,asIntOf,show 0≤h∧h≤(n:Int) by omega,show 0≤l∧l≤max h 0 by omega]
 have hadd:Addr.add ⟨b,off,none⟩ (l.toNat*s)=⟨b,off+l.toNat*s,none⟩:=by unfold Addr.add; split <;> simp_all
 have key:(Instr.sliceAt t (.pointer (some ⟨b,off,none⟩)) lo hi none).run P w= .ok (.slice (some (if n=l.toNat then⟨b,off,none⟩ else Addr.add ⟨b,off,none⟩ (l.toNat*s))) (h.toNat-l.toNat) (n-l.toNat)) w:=by
  simp[Instr.sliceAt,Instr.sureAddr,run_underlying hund,hb,run_sizeOf hn]
 rw[key,hadd]
 split <;> rfl
theorem map_some_agg {o:Option (List D)} {p side:Prop} {d:D} (h:o.map (fun cs=>(p,D.agg cs))=some (side,d)):∃cs,o=some cs∧d= .agg cs:=by
 cases o <;> simp at h
 exact⟨_,rfl,h.2.symm⟩
theorem buildP_struct {t:TypeId} (h:buildP P t=some none):∃fs,P.underlying t=some (.struct fs)∧∀f∈fs,∃n,szP P f.type=some n:=by
 unfold buildP at h
 split at h
 ·rename_i fs hfs
  split at h
  ·rename_i hall
   refine⟨fs,hfs,fun f hf=> ?_⟩
   have:=List.all_eq_true.1 hall f (by simpa using hf)
   exact Option.isSome_iff_exists.1 this
  ·cases h
 ·rename_i n e he
  cases hn:szP P e <;> simp[hn] at h
 ·cases h
theorem buildP_array {t e:TypeId} {n:Nat} (h:buildP P t=some (some (e,n))):∃k,P.underlying t=some (.array k e)∧szP P e=some n:=by
 unfold buildP at h
 split at h
 ·split at h <;> simp at h
 ·rename_i k e' he
  cases hn:szP P e' <;> simp[hn] at h
  obtain⟨rfl,rfl⟩:=h
  exact⟨k,he,hn⟩
 ·cases h
theorem run_mapM {α β:Type} (xs:Array α) (f:α→Sem β) (g:α→β) (h:∀x∈xs,(f x).run P w= .ok (g x) w):(xs.mapM f).run P w= .ok (xs.map g) w:=by
 have key:∀(l:List α),(∀x∈l,(f x).run P w= .ok (g x) w)→(l.mapM f).run P w= .ok (l.map g) w:=by
  intro l
  induction l with
  |nil=>intro _; simp
  |cons x l ih=>
   intro hx
   simp[hx x (by simp),ih (fun y hy=>hx y (by simp[hy]))]
 rw[Array.mapM_eq_mapM_toList]
 simp[key xs.toList (fun x hx=>h x (by simpa using hx))]
 apply Array.ext'
 simp
theorem pureD_sound {o:Oper} {side:Prop} {d:D} (h:pureD P o.op T=some (side,d)) (hs:side) (hi:AInv N M T σ a w):
  ∃v,(execOp a.eval o).run P w= .ok (.value v) w∧Rep M w d v:=by
 obtain⟨dst,op,type,pos,after,guard⟩:=o
 simp only at h
 cases op with
 |move x=>
  simp only[pureD,Option.some.injEq,Prod.mk.injEq] at h; obtain⟨rfl,rfl⟩:=h
  exact⟨a.eval x,by simp[execOp],ev_rep hi x⟩
 |assign x=>
  simp only[pureD,Option.some.injEq,Prod.mk.injEq] at h; obtain⟨rfl,rfl⟩:=h
  exact⟨a.eval x,by simp[execOp],ev_rep hi x⟩
 |pick c x y=>
  simp only[pureD] at h
  split at h
  ·rename_i t hc
   simp only[Option.some.injEq,Prod.mk.injEq,pickD_eq] at h; obtain⟨rfl,rfl⟩:=h
   have hr:=ev_rep hi c
   rw[hc] at hr
   simp only[Rep] at hr
   cases t
   ·exact⟨a.eval y,by simp[execOp,hr,asBool],by simpa using ev_rep hi y⟩
   ·exact⟨a.eval x,by simp[execOp,hr,asBool],by simpa using ev_rep hi x⟩
  ·cases h
 |binOp op xt x y yt=>
  simp only[pureD] at h
  obtain⟨⟨r,h1,h2⟩,h3⟩:=binD_sound h hs (ev_rep hi x) (ev_rep hi y)
  exact⟨r,by simp[execOp,h1,h3],h2⟩
 |unOp op xt x=>
  simp only[pureD] at h
  obtain⟨h,_⟩:=map_some_pair h
  have hr:=ev_rep hi x
  unfold unD at h
  split at h
  ·rename_i k n hx
   rw[hx] at hr; simp only[Rep] at hr
   split at h
   ·cases h
    exact⟨.int k (k.wrap (0-n)),by simp[execOp,hr,Op.unary,Op.intArith],rfl⟩
   ·cases h
  ·rename_i b hx
   rw[hx] at hr; simp only[Rep] at hr
   split at h
   ·cases h
    exact⟨_,by simp[execOp,hr,Op.unary],rfl⟩
   ·cases h
  ·cases h
 |convert src dst x=>
  simp only[pureD] at h
  obtain⟨h,_⟩:=map_some_pair h
  have hr:=ev_rep hi x
  unfold convD at h
  split at h
  ·rename_i k n hx
   rw[hx] at hr; simp only[Rep] at hr
   split at h
   ·rename_i hk hd
    cases h
    obtain⟨ds,hds⟩:=Option.isSome_iff_exists.1 hk
    refine⟨.int _ _, ?_,rfl⟩
    cases ds <;> simp[execOp,hr,convert,run_underlying hds,run_underlying (und_of_int hd),Conv.intToInt]
   ·cases h
  ·rename_i s hx
   rw[hx] at hr; simp only[Rep] at hr
   split at h
   ·rename_i hk hd
    cases h
    exact⟨_,by simp[execOp,hr,convert,run_underlying (und_of_str hk),run_underlying (und_of_str hd)],rfl⟩
   ·cases h
  ·cases h
 |makeInterface t x=>
  simp only[pureD] at h
  split at h
  ·rename_i hc
   simp only[Option.some.injEq,Prod.mk.injEq] at h; obtain⟨rfl,rfl⟩:=h
   obtain⟨d,hd,hne⟩:=concP_ne hc
   refine⟨.iface t (a.eval x), ?_,a.eval x,rfl,ev_rep hi x⟩
   cases d <;> first
    |exact absurd rfl (hne _)
    |simp[execOp,Instr.makeInterface,run_underlying hd]
  ·cases h
 |makeFunc fn first captured=>
  simp only[pureD,Option.some.injEq,Prod.mk.injEq] at h; obtain⟨rfl,rfl⟩:=h
  exact⟨.func fn (first.map a.eval) (captured.map a.eval),by simp[execOp,Instr.makeFunc],_,_,rfl,by simpa using repAll_ops hi first.toList,by simpa using repAll_ops hi captured.toList⟩
 |extract x i=>
  simp only[pureD] at h
  split at h
  ·rename_i ds hx
   obtain⟨h,_⟩:=map_some_pair h
   have hr:=ev_rep hi x
   rw[hx] at hr
   obtain⟨vs,hv,hr⟩:=hr
   obtain⟨v,hv',hr'⟩:=hr.get h
   have:vs[i]? =some v:=by simpa using hv'
   exact⟨v,by simp[execOp,hv,Instr.extract,this],hr'⟩
  ·cases h
 |field t x f=>
  simp only[pureD] at h
  split at h
  ·rename_i cs off ft hx hf
   obtain⟨h,_⟩:=map_some_pair h
   obtain⟨fs,y,n,hu,hy,rfl,rfl,hn,_⟩:=und_of_fld hf
   have hr:=ev_rep hi x
   rw[hx] at hr
   obtain⟨vs,hv,hr,h1⟩:=hr
   obtain⟨v,hv',hr'⟩:=part_rep h hr h1 w
   exact⟨v,by simp[execOp,hv,Instr.field,run_underlying hu,hy,asAgg,hv'],hr'⟩
  ·cases h
 |fieldAddr t x f=>
  simp only[pureD] at h
  split at h
  ·rename_i b off o ft hx hf
   simp only[Option.some.injEq,Prod.mk.injEq] at h; obtain⟨rfl,rfl⟩:=h
   obtain⟨fs,y,n,hu,hy,rfl,rfl,hn,hn0⟩:=und_of_fld hf
   have hr:=ev_rep hi x
   rw[hx] at hr; simp only[Rep] at hr
   have hadd:Addr.add ⟨b,off,none⟩ y.offset=⟨b,off+y.offset,none⟩:=by unfold Addr.add; split <;> simp_all
   exact⟨_,by simp[execOp,hr,Instr.fieldAt,run_underlying hu,hy,Instr.sureAddr,fieldPlace,run_sizeOf hn,hn0,hadd],rfl⟩
  ·rename_i cs o ft hx hf
   simp only[Option.some.injEq,Prod.mk.injEq] at h; obtain⟨rfl,rfl⟩:=h
   obtain⟨fs,y,n,hu,hy,rfl,rfl,hn,hn0⟩:=und_of_fld hf
   have hr:=ev_rep hi x
   rw[hx] at hr
   obtain⟨b,off,hr,hc⟩:=hr
   have hadd:Addr.add ⟨b,off,none⟩ y.offset=⟨b,off+y.offset,none⟩:=by unfold Addr.add; split <;> simp_all
   exact⟨_,by simp[execOp,hr,Instr.fieldAt,run_underlying hu,hy,Instr.sureAddr,fieldPlace,run_sizeOf hn,hn0,hadd],b,_,rfl,hc.drop _⟩
  ·cases h
 |indexAddr t x i=>
  simp only[pureD] at h
  split at h
  ·rename_i k n hx
   have hr:=ev_rep hi i
   rw[hx] at hr; simp only[Rep] at hr
   obtain⟨v,h1,h2⟩:=indexD_sound (k:=k) h hs (ev_rep hi x)
   exact⟨v,by simp[execOp,hr,h1],h2⟩
  ·cases h
 |index t x i=>
  simp only[pureD] at h
  split at h
  ·rename_i k n hx
   have hri:=ev_rep hi i
   rw[hx] at hri; simp only[Rep] at hri
   split at h
   ·rename_i s hs'
    have hr:=ev_rep hi x
    rw[hs'] at hr; simp only[Rep] at hr
    split at h
    ·rename_i hst
     simp only[Option.some.injEq,Prod.mk.injEq] at h; obtain⟨rfl,rfl⟩:=h
     have hlt:n.toNat<s.size:=by omega
     have hlt':n.toNat<s.data.toList.length:=by simpa using hlt
     have hget:s[n.toNat]? =some s[n.toNat]:=by simp[hlt]
     refine⟨.int .u8 (s[n.toNat]).toNat, ?_, ?_⟩
     ·simp[execOp,hr,hri,Instr.index,asIntOf,run_underlying (und_of_str hst),hs.1,hget]
     ·simp only[Rep]
      rw[List.getElem?_eq_getElem hlt']
      rfl
    ·cases h
   ·rename_i cs hcs
    have hr:=ev_rep hi x
    rw[hcs] at hr
    obtain⟨vs,hv,hr,h1⟩:=hr
    split at h
    ·rename_i k' e he
     split at h
     ·rename_i m hm
      obtain⟨h',hsd⟩:=map_some_pair h
      subst hsd
      obtain⟨v,hv',hr'⟩:=part_rep h' hr h1 w
      exact⟨v,by simp[execOp,hv,hri,Instr.index,asIntOf,run_underlying (und_of_arr he),hs.1,hs.2,run_sizeOf hm,hv'],hr'⟩
     ·cases h
    ·cases h
   ·cases h
  ·cases h
 |nilCheck x=>
  simp only[pureD] at h
  have hr:=ev_rep hi x
  split at h <;> first
   |cases h; done
   |(rename_i hx; simp only[Option.some.injEq,Prod.mk.injEq] at h; obtain⟨rfl,rfl⟩:=h; rw[hx] at hr)
  ·refine⟨a.eval x, ?_,hr⟩
   simp only[Rep] at hr; simp[execOp,hr]
  ·refine⟨a.eval x, ?_,hr⟩
   obtain⟨b,off,hr,_⟩:=hr; simp[execOp,hr]
  ·refine⟨a.eval x, ?_,hr⟩
   rcases rows_of_slice hr with⟨h,_⟩|⟨_,_,_,_,h,_⟩|⟨_,_,h,_⟩ <;> simp[execOp,h]
  ·refine⟨a.eval x, ?_,hr⟩
   obtain⟨_,_,hr,_⟩:=hr; simp[execOp,hr]
 |load t x=>
  simp only[pureD] at h
  split at h
  ·rename_i cs hx
   obtain⟨h,_⟩:=map_some_pair h
   have hr:=ev_rep hi x
   rw[hx] at hr
   obtain⟨b,off,hr,hc⟩:=hr
   obtain⟨v,hv,hr'⟩:=load_rep h hc
   exact⟨v,by simp[execOp,hr,Instr.loadAt,Instr.sureAddr,hv],hr'⟩
  ·cases h
 |build t parts=>
  simp only[pureD] at h
  split at h
  ·rename_i z hb hz
   obtain⟨cs,h',rfl⟩:=map_some_agg h
   obtain⟨zv,hzv,hzc,hzr,hzo⟩:=cD_zero hz M w
   obtain⟨fs,hu,hall⟩:=buildP_struct hb
   obtain⟨res,h1,h2,h3⟩:=fill_sound (place:=fldP P t) (fz:=id) (pl:=fun i=>(fs.map fun f=>(f.offset,(szP P f.type).getD 0))[i]?) (fun _ _ h=>h) (fun i off ty hp=>by
    obtain⟨fs',y,n,hu',hy,rfl,rfl,hn,_⟩:=und_of_fld hp
    rw[hu] at hu'; cases hu'
    exact⟨n,by simp[hy,hn],hn⟩) hi parts.toList z cs h' zv.cells hzr hzo
   refine⟨.agg res, ?_,res,rfl,h2,h3⟩
   have hm:=run_mapM (P:=P) (w:=w) fs (fun f=>Prod.mk f.offset <$> sizeOf f.type) (fun f=>(f.offset,(szP P f.type).getD 0)) (fun f hf=>by
    obtain⟨n,hn⟩:=hall f hf
    simp[run_sizeOf hn,hn])
   simp only[Array.getElem?_map] at h1
   simp[execOp,Instr.build,hzv,run_underlying hu,hm,h1]
  ·rename_i e n z hb hz
   obtain⟨cs,h',rfl⟩:=map_some_agg h
   obtain⟨zv,hzv,hzc,hzr,hzo⟩:=cD_zero hz M w
   obtain⟨k,hu,hn⟩:=buildP_array hb
   obtain⟨res,h1,h2,h3⟩:=fill_sound (place:=fun i=>some (i*n,e)) (fz:=id) (pl:=fun i=>some (i*n,n)) (fun _ _ h=>h) (fun i off ty hp=>by
    simp only[Option.some.injEq,Prod.mk.injEq] at hp
    obtain⟨rfl,rfl⟩:=hp
    exact⟨n,rfl,hn⟩) hi parts.toList z cs h' zv.cells hzr hzo
   refine⟨.agg res, ?_,res,rfl,h2,h3⟩
   simp[execOp,Instr.build,hzv,run_underlying hu,run_sizeOf hn,h1]
  ·cases h
 |call c=>
  obtain⟨callee,args,argTypes⟩:=c
  cases callee with
  |value f=>simp only[pureD] at h; cases h
  |invoke r m=>simp only[pureD] at h; cases h
  |builtin b=>
   cases b <;> simp only[pureD] at h <;> first
    |cases h; done
    |skip
   case len=>
    split at h
    ·rename_i x t ha ht
     obtain⟨h,_⟩:=map_some_pair h
     obtain⟨r,h1,h2⟩:=lenD_sound (ty:=type) h (ev_rep hi x)
     have ha':args= #[x]:=by rw[←Array.toList_inj]; simpa using ha
     have ht':argTypes= #[t]:=by rw[←Array.toList_inj]; simpa using ht
     subst ha'; subst ht'
     exact⟨r,by simp[execOp,resolve,invoke,builtin,h1],h2⟩
    ·cases h
   case min=>
    split at h
    ·rename_i x y ha
     have ha':args= #[x,y]:=by rw[←Array.toList_inj]; simpa using ha
     subst ha'
     split at h
     ·rename_i k p k' q hx hy
      split at h
      ·rename_i hk
       subst hk
       simp only[Option.some.injEq,Prod.mk.injEq] at h; obtain⟨rfl,rfl⟩:=h
       have hrx:=ev_rep hi x; rw[hx] at hrx; simp only[Rep] at hrx
       have hry:=ev_rep hi y; rw[hy] at hry; simp only[Rep] at hry
       refine⟨.int k (min p q), ?_,rfl⟩
       simp[execOp,resolve,invoke,builtin,hrx,hry,Builtin.min_,Builtin.min2,Int.min_def]
       split <;> split <;> omega
      ·cases h
     ·cases h
    ·cases h
   case max=>
    split at h
    ·rename_i x y ha
     have ha':args= #[x,y]:=by rw[←Array.toList_inj]; simpa using ha
     subst ha'
     split at h
     ·rename_i k p k' q hx hy
      split at h
      ·rename_i hk
       subst hk
       simp only[Option.some.injEq,Prod.mk.injEq] at h; obtain⟨rfl,rfl⟩:=h
       have hrx:=ev_rep hi x; rw[hx] at hrx; simp only[Rep] at hrx
       have hry:=ev_rep hi y; rw[hy] at hry; simp only[Rep] at hry
       refine⟨.int k (max p q), ?_,rfl⟩
       simp[execOp,resolve,invoke,builtin,hrx,hry,Builtin.max_,Builtin.max2,Int.max_def]
       split <;> split <;> omega
      ·cases h
     ·cases h
    ·cases h
 |slice t x lo hi' mx=>
  cases mx with
  |some m=>simp only[pureD] at h; cases h
  |none=>
   simp only[pureD] at h
   split at h
   ·rename_i o es hx
    have hr:=ev_rep hi x
    rw[hx] at hr
    split at h
    ·rename_i e he
     split at h
     ·rename_i n hn
      split at h
      ·rename_i l hh hl hhh
       simp only[Option.some.injEq,Prod.mk.injEq] at h; obtain⟨rfl,rfl⟩:=h
       obtain⟨⟨h0,h1,h2⟩,hrow⟩:=hs
       have e1:(lo.map a.eval=none∧l=0)∨∃k,lo.map a.eval=some (.int k l):=by
        cases lo with
        |none=>simp only[Option.some.injEq] at hl; exact .inl ⟨rfl,hl.symm⟩
        |some z=>obtain⟨k,hk⟩:=toInt?_rep hl (ev_rep hi z); exact .inr ⟨k,by simp[hk]⟩
       have e2:(hi'.map a.eval=none∧hh=es.length)∨∃k,hi'.map a.eval=some (.int k hh):=by
        cases hi' with
        |none=>simp only[Option.some.injEq] at hhh; exact .inl ⟨rfl,hhh.symm⟩
        |some z=>obtain⟨k,hk⟩:=toInt?_rep hhh (ev_rep hi z); exact .inr ⟨k,by simp[hk]⟩
       obtain⟨v,h3,h4⟩:=slice_sound he hn hr h0 h1 h2 hrow (lo.map a.eval) (hi'.map a.eval) e1 e2
       exact⟨v,by simp[execOp,h3],h4⟩
      ·cases h
     ·cases h
    ·cases h
   ·rename_i s hx
    have hr:=ev_rep hi x
    rw[hx] at hr; simp only[Rep] at hr
    split at h
    ·rename_i he
     split at h
     ·rename_i l hh hl hhh
      simp only[Option.some.injEq,Prod.mk.injEq] at h; obtain⟨rfl,rfl⟩:=h
      obtain⟨h0,h1,h2⟩:=hs
      have e1:(lo.map a.eval=none∧l=0)∨∃k,lo.map a.eval=some (.int k l):=by
       cases lo with
       |none=>simp only[Option.some.injEq] at hl; exact .inl ⟨rfl,hl.symm⟩
       |some z=>obtain⟨k,hk⟩:=toInt?_rep hl (ev_rep hi z); exact .inr ⟨k,by simp[hk]⟩
      have e2:(hi'.map a.eval=none∧hh=s.size)∨∃k,hi'.map a.eval=some (.int k hh):=by
       cases hi' with
       |none=>simp only[Option.some.injEq] at hhh; exact .inl ⟨rfl,hhh.symm⟩
       |some z=>obtain⟨k,hk⟩:=toInt?_rep hhh (ev_rep hi z); exact .inr ⟨k,by simp[hk]⟩
      have h3:=sliceStr_sound (P:=P) (w:=w) he h0 h1 h2 (lo.map a.eval) (hi'.map a.eval) e1 e2
      exact⟨_,by simp[execOp,hr,h3],rfl⟩
     ·cases h
    ·cases h
   ·rename_i b off hx
    have hr:=ev_rep hi x
    rw[hx] at hr; simp only[Rep] at hr
    split at h
    ·rename_i n e he
     split at h
     ·rename_i l hh hl hhh
      unfold bslD at h
      rw[he] at h
      simp only at h
      split at h
      ·rename_i s hn
       simp only[Option.some.injEq,Prod.mk.injEq] at h; obtain⟨rfl,rfl⟩:=h
       obtain⟨h0,h1,h2⟩:=hs
       have e1:(lo.map a.eval=none∧l=0)∨∃k,lo.map a.eval=some (.int k l):=by
        cases lo with
        |none=>simp only[Option.some.injEq] at hl; exact .inl ⟨rfl,hl.symm⟩
        |some z=>obtain⟨k,hk⟩:=toInt?_rep hl (ev_rep hi z); exact .inr ⟨k,by simp[hk]⟩
       have e2:(hi'.map a.eval=none∧hh=n)∨∃k,hi'.map a.eval=some (.int k hh):=by
        cases hi' with
        |none=>simp only[Option.some.injEq] at hhh; exact .inl ⟨rfl,hhh.symm⟩
        |some z=>obtain⟨k,hk⟩:=toInt?_rep hhh (ev_rep hi z); exact .inr ⟨k,by simp[hk]⟩
       have h3:=sliceArr_sound (P:=P) (w:=w) he hn (b:=b) (off:=off) h0 h1 h2 (lo.map a.eval) (hi'.map a.eval) e1 e2
       exact⟨_,by simp[execOp,hr,h3],rfl⟩
      ·cases h
     ·cases h
    ·cases h
   ·cases h
 |_=>simp only[pureD] at h; cases h
end
end Go.AL
namespace Go.AL
def St.set (σ:St) (b:Nat) (cs:List D):St:={σ with box:=fun x=>if x=b then some cs else σ.box x}
def St.setBuf (σ:St) (b s n:Nat):St:={σ with buf:=fun x=>if x=b then some (s,n) else σ.buf x}
def St.setM (σ:St) (b:Nat) (o:MO):St:={σ with mp:=fun x=>if x=b then some o else σ.mp x}
def St.dropBuf (σ:St) (b:Nat):St:={σ with buf:=fun x=>if x=b then none else σ.buf x}
def St.join (s fr:St):St:={box:=fun b=>(s.box b).or (fr.box b),buf:=fun b=>(s.buf b).or (fr.buf b),mp:=fun b=>(s.mp b).or (fr.mp b)}
def St.apart (s fr:St):Prop:=∀b,s.has b→¬fr.has b
def St.fin (σ:St):Prop:=∃n,∀b,n≤b→¬σ.has b
structure St.split (σ s fr:St):Prop where
 eq:σ=St.join s fr
 apart:St.apart s fr
theorem St.not_has_nil (b:Nat):¬({}:St).has b:=fun h=>by rcases h with h|h|h <;> exact h rfl
theorem St.join_nil (σ:St):St.join {} σ=σ:=by ext <;> simp[St.join]
theorem St.nil_join (σ:St):St.join σ {}=σ:=by ext <;> simp[St.join]
theorem St.split.pure (σ:St):St.split σ {} σ:=⟨(St.join_nil σ).symm,fun b h=>absurd h (St.not_has_nil b)⟩
theorem St.split.all (σ:St):St.split σ σ {}:=⟨(St.nil_join σ).symm,fun b _ h=>St.not_has_nil b h⟩
theorem heap_alloc_old {w:World} {o:Obj} {b:Nat} (h:b<w.heap.size):(w.alloc o).heap[b]? =w.heap[b]? :=by
 show(w.heap.push o)[b]? =_
 rw[Array.getElem?_push,if_neg (by omega)]
theorem heap_alloc_new (w:World) (o:Obj):(w.alloc o).heap[w.heap.size]? =some o:=by
 show(w.heap.push o)[w.heap.size]? =_
 simp
theorem heap_alloc_size (w:World) (o:Obj):(w.alloc o).heap.size=w.heap.size+1:=by
 show(w.heap.push o).size=_
 simp
theorem Keep.alloc {M:MMap} {w:World} (hd:∀b,M b≠none→b<w.heap.size) (o:Obj) (m:Option MK):
  Keep M w (fun x=>if x=w.heap.size then m else M x) (w.alloc o):=by
 refine⟨rfl,rfl,rfl,by rw[heap_alloc_size]; omega,fun b hb hM=> ?_,fun b lim c e f hM hc=> ?_⟩
 ·exact⟨by simp[show b≠w.heap.size by omega,hM],heap_alloc_old hb⟩
 ·have hb:=heap_lt hc
  exact⟨⟨c,(heap_alloc_old hb).trans hc,rfl,fun _ _=>rfl⟩,.inr ⟨lim,Nat.le_refl _,by simp[show b≠w.heap.size by omega,hM]⟩⟩
theorem Inv.fresh {M:MMap} {σ:St} {w:World} (h:Inv M σ w):¬σ.has w.heap.size:=fun hin=>by
 have:=h.dom _ (h.lt hin)
 omega
theorem BoxAt.keep {M M':MMap} {w w':World} (hk:Keep M w M' w') {b:Nat} {cs:List D} (h:BoxAt M w b cs) (hM:M' b=M b) (hh:w'.heap[b]? =w.heap[b]?):BoxAt M' w' b cs:=by
 obtain⟨h1,c,e,h2,h3,h4⟩:=h
 exact⟨hM.trans h1,c,e,hh.trans h2,zf6.keep hk _ _ h3,h4⟩
theorem BufAt.keep {M M':MMap} {w w':World} {b s n:Nat} (h:BufAt M w b s n) (hM:M' b=M b) (hh:w'.heap[b]? =w.heap[b]?):BufAt M' w' b s n:=by
 obtain⟨h1,c,e,cap,h2,h3⟩:=h
 exact⟨hM.trans h1,c,e,cap,hh.trans h2,h3⟩
theorem MpAt.keep {M M':MMap} {w w':World} {b:Nat} {o:MO} (hk:Keep M w M' w') (h:MpAt M w b o) (hM:M' b=M b) (hh:w'.heap[b]? =w.heap[b]?):MpAt M' w' b o:=by
 obtain⟨h1,x,h2,h3⟩:=h
 refine⟨hM.trans h1,x,hh.trans h2, ?_⟩
 cases o with
 |map kk ks vs clock=>
  obtain⟨es,e1,e2,e3,e4,e5⟩:=h3
  exact⟨es,e1,e2,e3,zf6.keep hk _ _ e4,e5⟩
 |iter m since seen=>exact h3
theorem has_box {σ:St} {b:Nat} {cs:List D} (h:σ.box b=some cs):σ.has b:= .inl (by simp[h])
theorem has_buf {σ:St} {b:Nat} {p:Nat×Nat} (h:σ.buf b=some p):σ.has b:= .inr (.inl (by simp[h]))
theorem has_mp {σ:St} {b:Nat} {o:MO} (h:σ.mp b=some o):σ.has b:= .inr (.inr (by simp[h]))
theorem Inv.addBox {M:MMap} {σ:St} {w:World} (h:Inv M σ w) {cs:List D} {c:Array Value} (e:TypeId) (hr:zf6 M w cs c.toList) (h1:∀u∈c.toList,u.oneCell'=true):
  Inv (fun x=>if x=w.heap.size then some .box else M x) (σ.set w.heap.size cs) (w.alloc (.cells c e))∧
  KeepF M σ w (fun x=>if x=w.heap.size then some .box else M x) (σ.set w.heap.size cs) (w.alloc (.cells c e)):=by
 have hk:=Keep.alloc h.dom (.cells c e) (some .box)
 have hne:∀b,σ.has b→b≠w.heap.size:=fun b hb he=>h.fresh (he▸hb)
 have hold:∀b,σ.has b→(if b=w.heap.size then some MK.box else M b)=M b∧(w.alloc (.cells c e)).heap[b]? =w.heap[b]? :=fun b hb=>
  ⟨by rw[if_neg (hne b hb)],heap_alloc_old (h.dom b (h.lt hb))⟩
 refine⟨⟨fun b cs' hb=> ?_,fun b s n hb=> ?_,fun b o hb=>(h.mp b o hb).keep hk (hold _ (has_mp hb)).1 (hold _ (has_mp hb)).2,fun b hb=> ?_⟩,{hk with frame:=fun b hM hb=> ?_,fresh:=fun b hb=> ?_}⟩
 ·simp only[St.set] at hb
  split at hb
  ·rename_i he
   subst he; cases hb
   exact⟨by simp,c,e,heap_alloc_new _ _,zf6.keep hk _ _ hr,h1⟩
  ·exact(h.box b cs' hb).keep hk (hold _ (has_box hb)).1 (hold _ (has_box hb)).2
 ·exact(h.buf b s n hb).keep (hold _ (has_buf hb)).1 (hold _ (has_buf hb)).2
 ·rw[heap_alloc_size]
  split at hb
  ·omega
  ·have:=h.dom b hb; omega
 ·have hlt:=h.dom b hM
  exact⟨by rw[if_neg (by omega)],heap_alloc_old hlt⟩
 ·rcases hb with hb|hb
  ·simp only[St.set] at hb
   split at hb
   ·exact .inr (by omega)
   ·exact .inl (.inl hb)
  ·exact .inl (.inr hb)
theorem Inv.addImm {M:MMap} {σ:St} {w:World} (h:Inv M σ w) (o:Obj):Inv M σ (w.alloc o)∧KeepF M σ w M σ (w.alloc o):=by
 have hM:(fun x=>if x=w.heap.size then none else M x)=M:=by
  funext x
  split
  ·rename_i hx
   subst hx
   cases hm:M w.heap.size with
   |none=>rfl
   |some m=>have:=h.dom w.heap.size (by simp[hm]); omega
  ·rfl
 have hk:=Keep.alloc h.dom o none
 rw[hM] at hk
 have hold:∀b,σ.has b→(w.alloc o).heap[b]? =w.heap[b]? :=fun b hb=>heap_alloc_old (h.dom b (h.lt hb))
 refine⟨⟨fun b cs hb=>(h.box b cs hb).keep hk rfl (hold b (has_box hb)),fun b s n hb=>(h.buf b s n hb).keep rfl (hold b (has_buf hb)),fun b o hb=>(h.mp b o hb).keep hk rfl (hold b (has_mp hb)),fun b hb=> ?_⟩,
  {hk with frame:=fun b hb _=>⟨rfl,heap_alloc_old (h.dom b hb)⟩,fresh:=fun b hb=> .inl hb}⟩
 have:=h.dom b hb
 rw[heap_alloc_size]; omega
def setRow (w:World) (b:Nat) (c:Array Value) (e:TypeId):World:={w with heap:=w.heap.setIfInBounds b (.cells c e (0,0))}
theorem setRow_same {w:World} {b:Nat} (h:b<w.heap.size) (c:Array Value) (e:TypeId):(setRow w b c e).heap[b]? =some (.cells c e (0,0)):=by
 simp[setRow,h]
theorem setRow_other {w:World} {b x:Nat} (h:x≠b) (c:Array Value) (e:TypeId):(setRow w b c e).heap[x]? =w.heap[x]? :=by
 simp[setRow,Array.getElem?_setIfInBounds_ne (Ne.symm h)]
theorem Inv.setBox {M:MMap} {σ:St} {w:World} (h:Inv M σ w) {b:Nat} {old new:List D} (hb:σ.box b=some old) {c:Array Value} {e:TypeId}
  (hc:∃c₀,w.heap[b]? =some (.cells c₀ e (0,0))) (hr:zf6 M w new c.toList) (h1:∀u∈c.toList,u.oneCell'=true):
  Inv M (σ.set b new) (setRow w b c e)∧KeepF M σ w M (σ.set b new) (setRow w b c e):=by
 obtain⟨c₀,hc⟩:=hc
 have hbM:M b=some .box:=(h.box _ _ hb).1
 have hlt:=heap_lt hc
 have hk:Keep M w M (setRow w b c e):=by
  refine⟨rfl,rfl,rfl,by simp[setRow],fun x hx hM=>⟨hM,setRow_other (fun he=>by subst he; rw[hbM] at hM; cases hM) _ _⟩,fun x lim cx ex fx hM hx=> ?_⟩
  have hne:x≠b:=fun he=>by subst he; rw[hbM] at hM; cases hM
  exact⟨⟨cx,(setRow_other hne _ _).trans hx,rfl,fun _ _=>rfl⟩,.inr ⟨lim,Nat.le_refl _,hM⟩⟩
 refine⟨⟨fun x cs hx=> ?_,fun x s n hx=> ?_,fun x o hx=> ?_,fun x hx=> ?_⟩,{hk with frame:=fun x hx hn=>⟨rfl,setRow_other (fun he=>hn ?_) _ _⟩,fresh:=fun x hx=> .inl ?_}⟩
 ·simp only[St.set] at hx
  split at hx
  ·rename_i he
   subst he; cases hx
   exact⟨hbM,c,e,setRow_same hlt _ _,zf6.keep hk _ _ hr,h1⟩
  ·rename_i hne
   exact(h.box x cs hx).keep hk rfl (setRow_other hne _ _)
 ·have hne:x≠b:=fun he=>by
   have:=(h.buf x s n hx).1
   rw[he,hbM] at this; cases this
  exact(h.buf x s n hx).keep rfl (setRow_other hne _ _)
 ·by_cases hne:x=b
  ·subst hne
   obtain⟨_,y,hy,hr'⟩:=h.mp x o hx
   rw[hc] at hy
   cases hy
   cases o <;> obtain⟨_,h1',_⟩:=hr' <;> cases h1'
  ·exact(h.mp x o hx).keep hk rfl (setRow_other hne _ _)
 ·simp only[setRow,Array.size_setIfInBounds]; exact h.dom x hx
 ·subst he; exact has_box hb
 ·rcases hx with hx|hx
  ·simp only[St.set] at hx
   split at hx
   ·rename_i he; subst he; exact has_box hb
   ·exact .inl hx
  ·exact .inr hx
theorem run_store_cells {P:Program} (b off:Nat) (e:TypeId):∀(vs:List Value) (i:Nat) (c:Array Value) (w:World),w.heap[b]? =some (.cells c e (0,0))→off+i+vs.length≤c.size→
  (∀v∈vs,v.oneCell'=true)→∃c',(storeCells ⟨b,off,none⟩ vs i).run P w= .ok () (setRow w b c' e)∧c'.toList=c.toList.take (off+i)++vs++c.toList.drop (off+i+vs.length)
 |[],i,c,w,hc,hl,h1=>by
  refine⟨c, ?_,by simp⟩
  have:setRow w b c e=w:=by
   simp only[setRow]
   have hlt:=heap_lt hc
   have:w.heap.setIfInBounds b (.cells c e (0,0))=w.heap:=by
    apply Array.ext_getElem?
    intro j
    by_cases hj:b=j
    ·subst hj; simp[hlt]; simpa[hlt] using hc.symm
    ·simp[Array.getElem?_setIfInBounds_ne hj]
   rw[this]
  simp[storeCells,this]
 |v::vs,i,c,w,hc,hl,h1=>by
  simp only[List.length_cons] at hl
  have hlt:=heap_lt hc
  have hadd:Addr.add ⟨b,off,none⟩ i=⟨b,off+i,none⟩:=by unfold Addr.add; split <;> simp_all
  have hcell:∃u,w.cell? ⟨b,off+i,none⟩=some u:=⟨c[off+i]'(by omega),cell_of hc (by simp[show off+i<c.size by omega])⟩
  obtain⟨u,hu⟩:=hcell
  have hfz:w.frozen? ⟨b,off+i,none⟩=false:=by simp[World.frozen?,hc]
  have hset:w.setCell ⟨b,off+i,none⟩ v=setRow w b (c.setIfInBounds (off+i) v) e:=by
   simp only[World.setCell,setRow]
   congr 1
   apply Array.ext_getElem?
   intro j
   by_cases hj:b=j
   ·subst hj
    rw[Array.getElem?_modify,if_pos rfl,hc]
    simp[hlt]
   ·simp[Array.getElem?_modify,hj,Array.getElem?_setIfInBounds_ne hj]
  obtain⟨c',r1,r2⟩:=run_store_cells (P:=P) b off e vs (i+1) (c.setIfInBounds (off+i) v) (setRow w b (c.setIfInBounds (off+i) v) e) (setRow_same hlt _ _) (by simp; omega) (fun x hx=>h1 x (by simp[hx]))
  refine⟨c', ?_, ?_⟩
  ·simp only[storeCells,hadd,Sem.run_bind,run_store P w _ v .plain (h1 v (by simp)),hu,hfz,hset]
   simp only[Bool.false_eq_true,if_false,Result.andThen]
   rw[r1]
   simp[setRow]
  ·rw[r2]
   simp only[Array.toList_setIfInBounds,List.length_cons]
   have hlt':off+i<c.toList.length:=by simp; omega
   rw[show off+(i+1)=(off+i)+1 by omega,List.take_succ_eq_append_getElem (by simpa using hlt')]
   simp only[List.getElem_set_self,List.take_set_of_le (Nat.le_refl _)]
   rw[List.drop_set_of_lt (by omega)]
   simp[List.append_assoc,show off+i+1+vs.length=off+i+(vs.length+1) by omega]
end Go.AL
namespace Go.AL
section
variable {P : Program} {N : Nat} {M : MMap} {T : Env} {σ : St} {a : Act} {w : World}
theorem addr_add (b off j:Nat):Addr.add ⟨b,off,none⟩ j=⟨b,off+j,none⟩:=by unfold Addr.add; split <;> simp_all
theorem cells_list:∀{cs:List D} {b off:Nat},RepCells M w cs b off→∃l:List Value,l.length=cs.length∧zf6 M w cs l∧(∀(j:Nat) (v:Value),l[j]? =some v→w.cell? ⟨b,off+j,none⟩=some v)∧∀v∈l,v.oneCell'=true
 |[],b,off,_=>⟨[],rfl,rfl,fun j v h=>(by simp at h),fun v h=>(by cases h)⟩
 |c::cs,b,off,h=>by
  obtain⟨⟨v,h1,h2,h3,h4⟩,h5⟩:=h
  obtain⟨l,l1,l2,l3,l4⟩:=cells_list h5
  refine⟨v::l,by simp[l1],⟨v,l,rfl,h4,l2⟩,fun j u hu=> ?_,fun u hu=> ?_⟩
  ·cases j with
   |zero=>simp at hu; subst hu; simpa using h1
   |succ j=>
    have:=l3 j u (by simpa using hu)
    rwa[show off+(j+1)=off+1+j by omega]
  ·simp only[List.mem_cons] at hu
   rcases hu with rfl|hu
   ·exact h2
   ·exact l4 u hu
theorem rows_list:∀{es:List (List D)} {b off s:Nat},RepRows M w es b off s→∃l:List Value,l.length=es.length*s∧zf6 M w es.flatten l∧(∀(j:Nat) (v:Value),l[j]? =some v→w.cell? ⟨b,off+j,none⟩=some v)∧∀v∈l,v.oneCell'=true
 |[],b,off,s,_=>⟨[],by simp,rfl,fun j v h=>(by simp at h),fun v h=>(by cases h)⟩
 |e::es,b,off,s,h=>by
  obtain⟨h0,h1,h2⟩:=h
  obtain⟨l,l1,l2,l3,l4⟩:=cells_list h1
  obtain⟨k,k1,k2,k3,k4⟩:=rows_list h2
  refine⟨l++k,by simp[l1,k1,h0,Nat.add_mul]; omega,by simpa using l2.append k2,fun j u hu=> ?_,fun u hu=> ?_⟩
  ·rw[List.getElem?_append] at hu
   split at hu
   ·exact l3 j u hu
   ·rename_i hge
    have:=k3 _ u hu
    rwa[show off+s+(j-l.length)=off+j by omega] at this
  ·simp only[List.mem_append] at hu
   rcases hu with hu|hu
   ·exact l4 u hu
   ·exact k4 u hu
theorem cells_of:∀{cs:List D} {l:List Value} {b off:Nat},zf6 M w cs l→(∀(j:Nat) (v:Value),l[j]? =some v→w.cell? ⟨b,off+j,none⟩=some v∧v.oneCell'=true∧ImmAt M b (off+j))→RepCells M w cs b off
 |[],_,_,_,_,_=>trivial
 |c::cs,l,b,off,h,hl=>by
  obtain⟨v,vs,rfl,h1,h2⟩:=h
  obtain⟨g1,g2,g3⟩:=hl 0 v rfl
  refine⟨⟨v,by simpa using g1,g2,by simpa using g3,h1⟩,cells_of h2 fun j u hu=> ?_⟩
  have:=hl (j+1) u (by simpa using hu)
  rwa[show off+1+j=off+(j+1) by omega]
theorem rows_of:∀{es:List (List D)} {l:List Value} {b off s:Nat},(∀r∈es,r.length=s)→zf6 M w es.flatten l→(∀(j:Nat) (v:Value),l[j]? =some v→w.cell? ⟨b,off+j,none⟩=some v∧v.oneCell'=true∧ImmAt M b (off+j))→RepRows M w es b off s
 |[],_,_,_,_,_,_,_=>trivial
 |e::es,l,b,off,s,hs,h,hl=>by
  have he:=hs e (by simp)
  have h':zf6 M w (e++es.flatten) l:=by simpa using h
  have hlen:=h'.length
  simp only[List.length_append] at hlen
  have h1:=h'.take e.length
  have h2:=h'.drop e.length
  simp only[List.take_left,List.drop_left] at h1 h2
  refine⟨he,cells_of h1 fun j v hv=> ?_,rows_of (fun r hr=>hs r (by simp[hr])) h2 fun j v hv=> ?_⟩
  ·rw[List.getElem?_take] at hv
   split at hv
   ·exact hl j v hv
   ·cases hv
  ·rw[List.getElem?_drop] at hv
   have:=hl _ v hv
   rwa[show off+(e.length+j)=off+s+j by omega] at this
theorem Inv.dropBuf (h:Inv M σ w) (b:Nat):Inv M (σ.dropBuf b) w:=
 ⟨fun x cs hx=>h.box x cs hx,fun x s n hx=>by
  simp only[St.dropBuf] at hx
  split at hx
  ·cases hx
  ·exact h.buf x s n hx,fun x o hx=>h.mp x o hx,h.dom⟩
theorem dropBuf_has {σ:St} {b x:Nat} (h:(σ.dropBuf b).has x):σ.has x:=by
 rcases h with h|h|h
 ·exact .inl h
 ·refine .inr (.inl fun h0=>h ?_)
  simp only[St.dropBuf]
  split <;> simp_all
 ·exact .inr (.inr h)
theorem Inv.addBuf (h:Inv M σ w) {c:Array Value} (e:TypeId) {s n cap:Nat} (hc:c.size=cap*s) (hn:n≤cap):
  Inv (fun x=>if x=w.heap.size then some (.buf (n*s)) else M x) (σ.setBuf w.heap.size s n) (w.alloc (.cells c e))∧
  KeepF M σ w (fun x=>if x=w.heap.size then some (.buf (n*s)) else M x) (σ.setBuf w.heap.size s n) (w.alloc (.cells c e)):=by
 have hk:=Keep.alloc h.dom (.cells c e) (some (.buf (n*s)))
 have hne:∀b,σ.has b→b≠w.heap.size:=fun b hb he=>h.fresh (he▸hb)
 have hold:∀b,σ.has b→(if b=w.heap.size then some (MK.buf (n*s)) else M b)=M b∧(w.alloc (.cells c e)).heap[b]? =w.heap[b]? :=fun b hb=>
  ⟨by rw[if_neg (hne b hb)],heap_alloc_old (h.dom b (h.lt hb))⟩
 refine⟨⟨fun b cs hb=>(h.box b cs hb).keep hk (hold _ (has_box hb)).1 (hold _ (has_box hb)).2,fun b s' n' hb=> ?_,fun b o hb=>(h.mp b o hb).keep hk (hold _ (has_mp hb)).1 (hold _ (has_mp hb)).2,fun b hb=> ?_⟩,{hk with frame:=fun b hM hb=> ?_,fresh:=fun b hb=> ?_}⟩
 ·simp only[St.setBuf] at hb
  split at hb
  ·rename_i he
   subst he; cases hb
   exact⟨by simp,c,e,cap,heap_alloc_new _ _,hc,hn⟩
  ·exact(h.buf b s' n' hb).keep (hold _ (has_buf hb)).1 (hold _ (has_buf hb)).2
 ·rw[heap_alloc_size]
  split at hb
  ·omega
  ·have:=h.dom b hb; omega
 ·have hlt:=h.dom b hM
  exact⟨by rw[if_neg (by omega)],heap_alloc_old hlt⟩
 ·rcases hb with hb|hb|hb
  ·exact .inl (.inl hb)
  ·simp only[St.setBuf] at hb
   split at hb
   ·exact .inr (by omega)
   ·exact .inl (.inr (.inl hb))
  ·exact .inl (.inr (.inr hb))
theorem Inv.growBuf (h:Inv M σ w) {b s n n':Nat} (hb:σ.buf b=some (s,n)) {c c':Array Value} {e:TypeId} {cap:Nat} (hc:w.heap[b]? =some (.cells c e (0,0))) (hcap:c.size=cap*s)
  (hs:c'.size=c.size) (hold:∀i,i<n*s→c'[i]? =c[i]?) (hn:n≤n') (hn':n'≤cap):
  Inv (fun x=>if x=b then some (.buf (n'*s)) else M x) ((σ.dropBuf b).setBuf b s n') (setRow w b c' e)∧
  KeepF M σ w (fun x=>if x=b then some (.buf (n'*s)) else M x) ((σ.dropBuf b).setBuf b s n') (setRow w b c' e)∧¬(σ.dropBuf b).has b:=by
 have hbM:=(h.buf _ _ _ hb).1
 have hlt:=heap_lt hc
 have hk:Keep M w (fun x=>if x=b then some (.buf (n'*s)) else M x) (setRow w b c' e):=by
  refine⟨rfl,rfl,rfl,by simp[setRow],fun x hx hM=> ?_,fun x lim cx ex fx hM hx=> ?_⟩
  ·have hne:x≠b:=fun he=>by subst he; rw[hbM] at hM; cases hM
   exact⟨by rw[if_neg hne]; exact hM,setRow_other hne _ _⟩
  ·by_cases hxb:x=b
   ·subst hxb
    rw[hbM] at hM; simp only[Option.some.injEq,MK.buf.injEq] at hM
    subst hM
    rw[hc] at hx; cases hx
    exact⟨⟨c',setRow_same hlt _ _,hs,hold⟩,.inr ⟨n'*s,Nat.mul_le_mul_right _ hn,by simp⟩⟩
   ·exact⟨⟨cx,(setRow_other hxb _ _).trans hx,rfl,fun _ _=>rfl⟩,.inr ⟨lim,Nat.le_refl _,by rw[if_neg hxb]; exact hM⟩⟩
 refine⟨⟨fun x cs hx=> ?_,fun x s' m hx=> ?_,fun x o hx=> ?_,fun x hx=> ?_⟩,{hk with frame:=fun x hx hn=> ?_,fresh:=fun x hx=> ?_}, ?_⟩
 ·have hx':σ.box x=some cs:=hx
  have hne:x≠b:=fun he=>by
   have:=(h.box x cs hx').1
   rw[he,hbM] at this; cases this
  exact(h.box x cs hx').keep hk (by rw[if_neg hne]) (setRow_other hne _ _)
 ·simp only[St.setBuf] at hx
  split at hx
  ·rename_i he
   subst he; cases hx
   exact⟨by simp,c',e,cap,setRow_same hlt _ _,hs.trans hcap,hn'⟩
  ·rename_i hne
   simp only[St.dropBuf,hne,if_false] at hx
   exact(h.buf x s' m hx).keep (by rw[if_neg hne]) (setRow_other hne _ _)
 ·have hne:x≠b:=fun he=>by
   have:=(h.mp x o hx).1
   rw[he,hbM] at this; cases this
  exact(h.mp x o hx).keep hk (by rw[if_neg hne]) (setRow_other hne _ _)
 ·simp only[setRow,Array.size_setIfInBounds]
  split at hx
  ·rename_i he; subst he; exact hlt
  ·exact h.dom x hx
 ·have hne:x≠b:=fun he=>hn (he▸has_buf hb)
  exact⟨by rw[if_neg hne],setRow_other hne _ _⟩
 ·rcases hx with hx|hx|hx
  ·exact .inl (.inl hx)
  ·simp only[St.setBuf] at hx
   split at hx
   ·rename_i he; subst he; exact .inl (has_buf hb)
   ·exact .inl (dropBuf_has (b:=b) (.inr (.inl hx)))
  ·exact .inl (.inr (.inr hx))
 ·rintro(hx|hx|hx)
  ·cases hcs:(σ.dropBuf b).box b with
   |none=>exact hx hcs
   |some cs=>
    have:=(h.box b cs hcs).1
    rw[hbM] at this; cases this
  ·exact hx (by simp[St.dropBuf])
  ·cases hcs:σ.mp b with
   |none=>exact hx hcs
   |some o=>
    have:=(h.mp b o hcs).1
    rw[hbM] at this; cases this
end
end Go.AL
namespace Go.AL
section
variable {P : Program} {N : Nat} {M : MMap} {T : Env} {σ : St} {a : Act} {w : World}
theorem cell_heap {w w':World} (h:w'.heap=w.heap) (x:Addr):w'.cell? x=w.cell? x:=by simp[World.cell?,h]
theorem first_run {o:Own} {ys:List (List D)} {v:Value} (hr:Rep M w (.slice o ys) v) {s:Nat} (hs:∀r∈ys,r.length=s):
  ∃l:List Value,l.length=ys.length*s∧zf6 M w ys.flatten l∧(∀u∈l,u.oneCell'=true)∧(∃base cap,v= .slice base ys.length cap)∧
   ∀w':World,w'.heap=w.heap→(Builtin.firstCells s ys.length v).run P w'= .ok l.toArray w':=by
 rcases rows_of_slice hr with⟨rfl,rfl⟩|⟨b,off,cap,size,rfl,hl,hrow⟩|⟨a,cap,rfl,rfl⟩
 ·exact⟨[],by simp,rfl,fun u h=>(by cases h),⟨none,0,rfl⟩,fun w' _=>by simp[Builtin.firstCells]⟩
 ·obtain⟨l,l1,l2,l3,l4⟩:=rows_list hrow
  have hsz:ys.length*size=ys.length*s:=by
   cases ys with
   |nil=>simp
   |cons y ys=>
    have:=hs y (by simp)
    rw[hrow.1] at this
    rw[this]
  refine⟨l,l1.trans hsz,l2,l4,⟨_,cap,rfl⟩,fun w' hw'=> ?_⟩
  have:=run_loadCells_list (P:=P) w' ⟨b,off,none⟩ l (fun j v hv=>by rw[addr_add,cell_heap hw']; exact l3 j v hv)
  rw[l1,hsz] at this
  simp[Builtin.firstCells,this]
 ·refine⟨[],by simp,rfl,fun u h=>(by cases h),⟨some a,cap,rfl⟩,fun w' _=> ?_⟩
  have:=run_loadCells_list (P:=P) w' a [] (fun j v hv=>by simp at hv)
  simpa[Builtin.firstCells] using this
structure AppT (P:Program) (t t' e:TypeId) (s by':Nat):Prop where
 ht:sliP P t=some e
 ht':sliP P t'=some e
 hs:szP P e=some s
 pos:0<s
 hby:zd5 P e=some by'
 hz:∃z,zf4 P e=some z∧z.length=s
theorem append_still {t t' e:TypeId} {s by':Nat} (H:AppT P t t' e s by') {base:Option Addr} {len cap:Nat} (hc:len≤cap) {y:Value} {base':Option Addr} {cap':Nat} (hy:y= .slice base' 0 cap')
  (hy':(Builtin.firstCells s 0 y).run P w= .ok #[] w) (ty:TypeId):
  (Builtin.append_ #[t,t'] ty #[.slice base len cap,y]).run P w= .ok (.slice base len cap) w:=by
 subst hy
 obtain⟨i,hi,his⟩:=Option.map_eq_some_iff.1 H.hs
 cases base <;> simp[Builtin.append_,run_underlying (und_of_sli H.ht),run_underlying (und_of_sli H.ht'),sizeOf,typeInfo,hi,his,Builtin.lenOf,hc,hy',storeCells]
theorem append_room {t t' e:TypeId} {s by':Nat} (H:AppT P t t' e s by') {b len cap n:Nat} {c:Array Value} {e₀:TypeId} (hcell:w.heap[b]? =some (.cells c e₀ (0,0))) {y:Value} {base':Option Addr} {cap':Nat} (hy:y= .slice base' n cap')
  (hc:len+n≤cap) (hsz:c.size=cap*s) {l:List Value} (hl:l.length=n*s) (h1:∀u∈l,u.oneCell'=true) (hy':(Builtin.firstCells s n y).run P w= .ok l.toArray w) (ty:TypeId):
  ∃c',(Builtin.append_ #[t,t'] ty #[.slice (some ⟨b,0,none⟩) len cap,y]).run P w= .ok (.slice (some ⟨b,0,none⟩) (len+n) cap) (setRow w b c' e₀)∧
   c'.toList=c.toList.take (len*s)++l++c.toList.drop (len*s+n*s):=by
 subst hy
 obtain⟨i,hi,his⟩:=Option.map_eq_some_iff.1 H.hs
 have hle:len*s+n*s≤c.size:=by rw[hsz,←Nat.add_mul]; exact Nat.mul_le_mul_right _ hc
 obtain⟨c',r1,r2⟩:=run_store_cells (P:=P) b (len*s) e₀ l 0 c w hcell (by omega) h1
 refine⟨c', ?_,by rw[r2,hl]; simp⟩
 simp[Builtin.append_,run_underlying (und_of_sli H.ht),run_underlying (und_of_sli H.ht'),sizeOf,typeInfo,hi,his,Builtin.lenOf,hc,hy',addr_add,r1]
theorem append_grow {t t' e:TypeId} {s by':Nat} (H:AppT P t t' e s by') {base:Option Addr} {len cap n:Nat} {x y:Value} (hx:x= .slice base len cap) {base':Option Addr} {cap':Nat} (hy:y= .slice base' n cap')
  (hc:cap<len+n) (hb:(len+n)*by'≤140737488355328) (hb0:0<by') {old l:List Value} (ho:old.length=len*s) (hl:l.length=n*s)
  (hx':∀w':World,w'.heap=w.heap→(Builtin.firstCells s len x).run P w'= .ok old.toArray w')
  (hy':∀w':World,w'.heap=w.heap→(Builtin.firstCells s n y).run P w'= .ok l.toArray w') (ty:TypeId):
  ∃c ncap,(Builtin.append_ #[t,t'] ty #[x,y]).run P w= .ok (.slice (some ⟨w.heap.size,0,none⟩) (len+n) ncap) (w.drew.alloc (.cells c e))∧len+n≤ncap∧c.size=ncap*s∧
   ∃rest:List Value,c.toList=old++l++rest:=by
 subst hx; subst hy
 obtain⟨i,hi,his⟩:=Option.map_eq_some_iff.1 H.hs
 obtain⟨i',hi',hib⟩:=Option.map_eq_some_iff.1 H.hby
 rw[hi] at hi'; cases hi'
 obtain⟨z,hz,hzl⟩:=H.hz
 obtain⟨zv,hzv,hzc,_,_⟩:=cD_zero hz (fun _=>none) w
 have hzi:i.zero=some zv:=by
  simp only[zeroValue,typeInfo] at hzv
  simp[hi] at hzv
  cases hq:i.zero with
  |none=>simp[hq] at hzv
  |some u=>simp[hq] at hzv; rw[hzv]
 have hzs:zv.cells.size=s:=by rw[←hzl,hzc]; simp
 have h63:¬(9223372036854775807<((len:Int)+(n:Int))):=by
  have:(len+n)≤(len+n)*by':=Nat.le_mul_of_pos_right _ hb0
  omega
 have hfit:=growslice_fits hc hb
 have h48:¬(281474976710656<Builtin.nextslicecap (len+n) cap*by'):=by omega
 have hdr:w.drew.heap=w.heap:=rfl
 have hcut:=grownCap w (len+n) cap e
 have hcap:len+n≤grownCap w (len+n) cap e:=by simp only[grownCap,Question.cut]; omega
 refine⟨(old.toArray++l.toArray++Builtin.zeroCells zv.cells (grownCap w (len+n) cap e-(len+n))),grownCap w (len+n) cap e, ?_,hcap, ?_, ?_⟩
 ·have hx2:=hx' w.drew hdr
  have hy2:=hy' w.drew hdr
  simp[Builtin.append_,run_underlying (und_of_sli H.ht),run_underlying (und_of_sli H.ht'),sizeOf,typeInfo,zeroValue,hi,hzi,his,hib,Builtin.lenOf,show ¬(len+n≤cap) by omega,h63,h48,Question.forced,hx2,hy2,newRow,grownCap]
  congr 2
  apply Array.ext'
  simp[List.append_assoc]
 ·simp only[Array.size_append,List.size_toArray,ho,hl,size_zeroCells,hzs]
  rw[←Nat.add_mul,←Nat.add_mul]; congr 1; omega
 ·exact⟨(Builtin.zeroCells zv.cells (grownCap w (len+n) cap e-(len+n))).toList,by simp⟩
theorem keep_drew (M:MMap) (w:World):Keep M w M w.drew:=⟨rfl,rfl,rfl,Nat.le_refl _,fun _ _ h=>⟨h,rfl⟩,fun _ lim c _ _ h hc=>⟨⟨c,hc,rfl,fun _ _=>rfl⟩,.inr ⟨lim,Nat.le_refl _,h⟩⟩⟩
theorem drew_inv (h:Inv M σ w):Inv M σ w.drew∧KeepF M σ w M σ w.drew:=
 ⟨⟨fun p cs hp=>(h.box p cs hp).keep (keep_drew M w) rfl rfl,fun p s n hp=>h.buf p s n hp,fun p o hp=>(h.mp p o hp).keep (keep_drew M w) rfl rfl,h.dom⟩,
  {os:=rfl,tape:=rfl,output:=rfl,size:=Nat.le_refl _,imm:=fun _ _ h=>⟨h,rfl⟩,buf:=fun _ lim c _ _ h hc=>⟨⟨c,hc,rfl,fun _ _=>rfl⟩,.inr ⟨lim,Nat.le_refl _,h⟩⟩,frame:=fun _ _ _=>⟨rfl,rfl⟩,fresh:=fun _ h=> .inl h}⟩
theorem flat_append (xs ys:List (List D)):(xs++ys).flatten=xs.flatten++ys.flatten:=by simp
def AppPost (P:Program) (M:MMap) (σ σ₀:St) (w:World) (s:Nat) (t t' ty:TypeId) (x y:Value) (es:List (List D)):Prop:=
 ∃v w' M' b,(Builtin.append_ #[t,t'] ty #[x,y]).run P w= .ok v w'∧Rep M' w' (.slice (.buf b s) es) v∧¬σ₀.has b∧
  Inv M' (σ₀.setBuf b s es.length) w'∧KeepF M σ w M' (σ₀.setBuf b s es.length) w'
theorem append_new {t t' e:TypeId} {s by':Nat} (H:AppT P t t' e s by') {base:Option Addr} {len cap:Nat} {x y:Value} (hx:x= .slice base len cap)
  {o o':Own} {xs ys:List (List D)} (rx:Rep M w (.slice o xs) x) (ry:Rep M w (.slice o' ys) y) (hlen:len=xs.length) (hxs:∀r∈xs,r.length=s) (hys:∀r∈ys,r.length=s)
  (hc:cap<len+ys.length) (hb0:0<by') (hb:(xs.length+ys.length)*by'≤140737488355328) {σ₀:St} (hi:Inv M σ w) (h₀:Inv M σ₀ w) (hsub:∀b,σ₀.has b→σ.has b) (ty:TypeId):
  AppPost P M σ σ₀ w s t t' ty x y (xs++ys):=by
 obtain⟨ol,ol1,ol2,ol3,_,ol4⟩:=first_run (P:=P) rx hxs
 obtain⟨nl,nl1,nl2,nl3,⟨base',cap',hy⟩,nl4⟩:=first_run (P:=P) ry hys
 subst hlen
 obtain⟨c,ncap,hrun,g1,g2,rest,g3⟩:=append_grow H hx hy hc (by simpa using hb) hb0 ol1 nl1 ol4 nl4 ty
 obtain⟨hi1,hk1⟩:=drew_inv h₀
 obtain⟨hi2,hk2⟩:=hi1.addBuf (c:=c) e g2 g1
 have hk:=hk1.trans h₀.dom hk2
 have hlen':(xs++ys).length=xs.length+ys.length:=by simp
 refine⟨_,_,_,w.heap.size,hrun, ?_,h₀.fresh,by rw[hlen']; exact hi2,by rw[hlen']; exact {hk.toKeep with frame:=fun b hM hb=>hk.frame b hM fun hin=>hb (hsub b hin),fresh:=fun b hb=>(hk.fresh b hb).imp (hsub b) id}⟩
 refine⟨ncap,c,e,(0,0),by rw[hlen'],by rw[hlen']; exact g1, ?_,heap_alloc_new _ _,g2,by simp⟩
 have hflat:zf6 M w (xs++ys).flatten (ol++nl):=by rw[flat_append]; exact ol2.append nl2
 refine rows_of (fun r hr=>(List.mem_append.1 hr).elim (hxs r) (hys r)) (zf6.keep hk.toKeep _ _ hflat) fun j v hv=> ?_
 have hj:j<(ol++nl).length:=(List.getElem?_eq_some_iff.1 hv).1
 have hcv:c[j]? =some v:=by
  have:c.toList[j]? =some v:=by rw[g3,List.getElem?_append_left hj]; exact hv
  simpa using this
 have hjl:j<(xs.length+ys.length)*s:=by rw[Nat.add_mul,←ol1,←nl1,←List.length_append]; exact hj
 refine⟨cell_of (heap_alloc_new _ _) (by simpa using hcv), ?_, ?_⟩
 ·have:=List.mem_of_getElem? hv
  rcases List.mem_append.1 this with h|h
  ·exact ol3 v h
  ·exact nl3 v h
 ·simp only[ImmAt,Nat.zero_add]
  have:(w.drew).heap.size=w.heap.size:=rfl
  simp only[this,if_true]
  exact hjl
theorem append_own {t t' e:TypeId} {s by':Nat} (H:AppT P t t' e s by') {b:Nat} {x y:Value} {o':Own} {xs ys:List (List D)} (rx:Rep M w (.slice (.buf b s) xs) x) (ry:Rep M w (.slice o' ys) y)
  (hys:∀r∈ys,r.length=s) (hb0:0<by') (hb:(xs.length+ys.length)*by'≤140737488355328) (hi:Inv M σ w) (hbuf:σ.buf b=some (s,xs.length)) (ty:TypeId):
  AppPost P M σ (σ.dropBuf b) w s t t' ty x y (xs++ys):=by
 obtain⟨cap,c,e₀,f,rfl,hle,hrow,hcell,hsz,_⟩:=id rx
 have hxs:∀r∈xs,r.length=s:=fun r hr=>by
  obtain⟨i,hi'⟩:=List.getElem?_of_mem hr
  exact(hrow.get hi').1
 by_cases hc:xs.length+ys.length≤cap
 ·obtain⟨nl,nl1,nl2,nl3,⟨base',cap',hy⟩,nl4⟩:=first_run (P:=P) ry hys
  obtain⟨hbM,c₁,e₁,cap₁,hcell₁,hsz₁,hle₁⟩:=hi.buf _ _ _ hbuf
  rw[hcell] at hcell₁
  simp only[Option.some.injEq,Obj.cells.injEq] at hcell₁
  obtain⟨rfl,rfl,rfl⟩:=hcell₁
  obtain⟨c',hrun,hc'⟩:=append_room H hcell hy hc hsz nl1 nl3 (nl4 w rfl) ty
  have hfit:xs.length*s+ys.length*s≤c.size:=by rw[hsz,←Nat.add_mul]; exact Nat.mul_le_mul_right _ hc
  have hlen₁:c'.size=c.size:=by
   have:c'.toList.length=c.toList.length:=by rw[hc']; simp only[List.length_append,List.length_take,List.length_drop,nl1,Array.length_toList]; omega
   simpa using this
  have hold:∀i,i<xs.length*s→c'[i]? =c[i]? :=fun i hi'=>by
   have:c'.toList[i]? =c.toList[i]? :=by
    rw[hc',List.append_assoc,List.getElem?_append_left (by simp only[List.length_take,Array.length_toList]; omega),List.getElem?_take,if_pos hi']
   simpa using this
  obtain⟨hi2,hk2,hbout⟩:=hi.growBuf (n':=xs.length+ys.length) hbuf hcell hsz hlen₁ hold (by omega) hc
  have hlen':(xs++ys).length=xs.length+ys.length:=by simp
  refine⟨_,_,_,b,hrun, ?_,hbout,by rw[hlen']; exact hi2,by rw[hlen']; exact hk2⟩
  refine⟨cap,c',e₀,(0,0),by rw[hlen'],by rw[hlen']; exact hc, ?_,setRow_same (heap_lt hcell) _ _,hlen₁.trans hsz,by simp⟩
  obtain⟨ol,ol1,ol2,ol3,ol4⟩:=rows_list hrow
  have hflat:zf6 M w (xs++ys).flatten (ol++nl):=by rw[flat_append]; exact ol2.append nl2
  refine rows_of (fun r hr=>(List.mem_append.1 hr).elim (hxs r) (hys r)) (zf6.keep hk2.toKeep _ _ hflat) fun j v hv=> ?_
  have hj:j<(ol++nl).length:=(List.getElem?_eq_some_iff.1 hv).1
  have hjl:j<(xs.length+ys.length)*s:=by rw[Nat.add_mul,←ol1,←nl1,←List.length_append]; exact hj
  have hcv:c'[j]? =some v:=by
   by_cases hlt:j<xs.length*s
   ·rw[hold j hlt]
    rw[List.getElem?_append_left (by rw[ol1]; exact hlt)] at hv
    have:=ol3 j v hv
    obtain⟨cc,ee,ff,h1,h2⟩:=cell_some this
    rw[hcell] at h1; cases h1
    simpa using h2
   ·have:c'.toList[j]? =some v:=by
     rw[List.getElem?_append_right (by rw[ol1]; omega),ol1] at hv
     have hjn:j-xs.length*s<nl.length:=(List.getElem?_eq_some_iff.1 hv).1
     have htk:(c.toList.take (xs.length*s)).length=xs.length*s:=by simp only[List.length_take,Array.length_toList]; omega
     rw[hc',List.append_assoc,List.getElem?_append_right (by rw[htk]; omega),htk,List.getElem?_append_left hjn]
     exact hv
    simpa using this
  refine⟨cell_of (setRow_same (heap_lt hcell) _ _) (by simpa using hcv), ?_, ?_⟩
  ·have:=List.mem_of_getElem? hv
   rcases List.mem_append.1 this with h|h
   ·exact ol4 v h
   ·exact nl3 v h
  ·simp only[ImmAt,Nat.zero_add,if_true]
   exact hjl
 ·exact append_new H rfl rx ry rfl hxs hys (by omega) hb0 hb hi (hi.dropBuf b) (fun x hx=>dropBuf_has hx) ty
theorem append_roomy {t t' e:TypeId} {s by':Nat} (H:AppT P t t' e s by') {b k:Nat} {x y:Value} {o':Own} {xs ys:List (List D)} (rx:Rep M w (.roomy b s k xs) x) (ry:Rep M w (.slice o' ys) y)
  (hys:∀r∈ys,r.length=s) (hk:xs.length+ys.length≤k) (hi:Inv M σ w) (hbuf:σ.buf b=some (s,xs.length)) (ty:TypeId):
  ∃v w' M',(Builtin.append_ #[t,t'] ty #[x,y]).run P w= .ok v w'∧Rep M' w' (.roomy b s k (xs++ys)) v∧Inv M' ((σ.dropBuf b).setBuf b s (xs.length+ys.length)) w'∧KeepF M σ w M' ((σ.dropBuf b).setBuf b s (xs.length+ys.length)) w':=by
 obtain⟨cap,c,e₀,f,rfl,hle,hkc,hrow,hcell,hsz,_⟩:=id rx
 have hc:xs.length+ys.length≤cap:=Nat.le_trans hk hkc
 have hxs:∀r∈xs,r.length=s:=fun r hr=>by
  obtain⟨i,hi'⟩:=List.getElem?_of_mem hr
  exact(hrow.get hi').1
 obtain⟨nl,nl1,nl2,nl3,⟨base',cap',hy⟩,nl4⟩:=first_run (P:=P) ry hys
 obtain⟨hbM,c₁,e₁,cap₁,hcell₁,hsz₁,hle₁⟩:=hi.buf _ _ _ hbuf
 rw[hcell] at hcell₁
 simp only[Option.some.injEq,Obj.cells.injEq] at hcell₁
 obtain⟨rfl,rfl,rfl⟩:=hcell₁
 obtain⟨c',hrun,hc'⟩:=append_room H hcell hy hc hsz nl1 nl3 (nl4 w rfl) ty
 have hfit:xs.length*s+ys.length*s≤c.size:=by rw[hsz,←Nat.add_mul]; exact Nat.mul_le_mul_right _ hc
 have hlen₁:c'.size=c.size:=by
  have:c'.toList.length=c.toList.length:=by rw[hc']; simp only[List.length_append,List.length_take,List.length_drop,nl1,Array.length_toList]; omega
  simpa using this
 have hold:∀i,i<xs.length*s→c'[i]? =c[i]? :=fun i hi'=>by
  have:c'.toList[i]? =c.toList[i]? :=by
   rw[hc',List.append_assoc,List.getElem?_append_left (by simp only[List.length_take,Array.length_toList]; omega),List.getElem?_take,if_pos hi']
  simpa using this
 obtain⟨hi2,hk2,hbout⟩:=hi.growBuf (n':=xs.length+ys.length) hbuf hcell hsz hlen₁ hold (by omega) hc
 have hlen':(xs++ys).length=xs.length+ys.length:=by simp
 refine⟨_,_,_,hrun, ?_,hi2,hk2⟩
 refine⟨cap,c',e₀,(0,0),by rw[hlen'],by rw[hlen']; exact hc,hkc, ?_,setRow_same (heap_lt hcell) _ _,hlen₁.trans hsz,by simp⟩
 obtain⟨ol,ol1,ol2,ol3,ol4⟩:=rows_list hrow
 have hflat:zf6 M w (xs++ys).flatten (ol++nl):=by rw[flat_append]; exact ol2.append nl2
 refine rows_of (fun r hr=>(List.mem_append.1 hr).elim (hxs r) (hys r)) (zf6.keep hk2.toKeep _ _ hflat) fun j v hv=> ?_
 have hj:j<(ol++nl).length:=(List.getElem?_eq_some_iff.1 hv).1
 have hjl:j<(xs.length+ys.length)*s:=by rw[Nat.add_mul,←ol1,←nl1,←List.length_append]; exact hj
 have hcv:c'[j]? =some v:=by
  by_cases hlt:j<xs.length*s
  ·rw[hold j hlt]
   rw[List.getElem?_append_left (by rw[ol1]; exact hlt)] at hv
   have:=ol3 j v hv
   obtain⟨cc,ee,ff,h1,h2⟩:=cell_some this
   rw[hcell] at h1; cases h1
   simpa using h2
  ·have:c'.toList[j]? =some v:=by
    rw[List.getElem?_append_right (by rw[ol1]; omega),ol1] at hv
    have hjn:j-xs.length*s<nl.length:=(List.getElem?_eq_some_iff.1 hv).1
    have htk:(c.toList.take (xs.length*s)).length=xs.length*s:=by simp only[List.length_take,Array.length_toList]; omega
    rw[hc',List.append_assoc,List.getElem?_append_right (by rw[htk]; omega),htk,List.getElem?_append_left hjn]
    exact hv
   simpa using this
 refine⟨cell_of (setRow_same (heap_lt hcell) _ _) (by simpa using hcv), ?_, ?_⟩
 ·have:=List.mem_of_getElem? hv
  rcases List.mem_append.1 this with h|h
  ·exact ol4 v h
  ·exact nl3 v h
 ·simp only[ImmAt,Nat.zero_add,if_true]
  exact hjl
end
end Go.AL
