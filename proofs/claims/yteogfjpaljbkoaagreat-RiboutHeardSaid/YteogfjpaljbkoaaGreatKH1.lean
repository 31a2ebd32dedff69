/- Joined: V0, VA, VB, VC, VD, VE, VF, VG, VH, VI, VJ0. -/
import Derived.Below
import Derived.Laws.Cells
import Derived.Laws.CopyRow
import Derived.Laws.Build
import Derived.ControlIn
import Derived.CallsIn
import Derived.OwnWalkIn
import Derived.DeepKeys4
import Derived.Maps.Keyed
import Derived.Maps.RangeRun
import Derived.Maps.AppendAt
import Derived.Laws.MakeOwn
import Derived.Laws.Rows
import Derived.Laws.Tables
import Derived.Laws.Small
import Derived.Laws.Strings
import Derived.Laws.StructEq
import Derived.DeepKeys
import Derived.Lib.SliceRun
import Derived.MapKept
import Derived.Laws.Slices
import Derived.Laws.Strings2
import Derived.Great.BuildSlice
import Derived.RangeFuncRecord
set_option linter.unusedVariables false
set_option linter.unusedSimpArgs false
set_option maxRecDepth 100000
set_option maxHeartbeats 16000000
namespace Go.Proofs.YteogfjpaljbkoaaGreat
open Go.RowKit
def glob:List (Nat × (Obj→Prop)):=[]
def freshFns:List Nat:=[141,46]
def updFns:List Nat:=[22]
inductive V where
 | any
 | int (k:IntKind) (n:Int)
 | bool (b:Bool)
 | str (s:ByteArray)
 | agg (cs:List V)
 | tup (vs:List V)
 | snil
 | sl (fr:Bool) (sz:Nat) (xs:List (List V))
 | osl (b sz row n:Nat)
 | nilp
 | ptr (b col:Nat)
 | eptr (b sz row col:Nat)
 | iptr (fr:Bool) (cs:List V)
 | nilf
 | fn (f:Fn) (first cap:List V)
 | nili
 | ifc (t:TypeId) (v:V)
 | opt (c:Bool) (v:V)
 | yld (b:Nat)
 | ubool
 | psl (b sz row n:Nat)
 | pin (u:Value) (v:V)
 | mapp (b:Nat)
 | nilm
 | imap (fr:Bool) (es:List (V × V))
instance:Inhabited V:=⟨.any⟩
inductive Blk where
 | var (fr:Bool) (ty:TypeId) (cells:List V)
 | arr (fr ex:Bool) (ty:TypeId) (sz:Nat) (rows:List (List V))
 | loop (N:Nat) (t:List (Nat × V)) (ps:List Nat) (asg body:Code) (st:LoopState) (pend:Option Code)
 | map (es:List (V × V))
 | iter (cur:Option (V × V)) (rest:List (V × V))
abbrev Heap:=List (Nat × Option Blk)
structure St where
 t:List (Nat × V)
 h:Heap
 nx:Nat
def look:List (Nat × V)→Nat→V
 | [],_=>.any
 | (i,v) :: r,j=>match Nat.beq i j with|true=>v|false=>look r j
def hget:Heap→Nat→Option Blk
 | [],_=>none
 | (i,v) :: r,j=>match Nat.beq i j with|true=>v|false=>hget r j
structure Gh where
 ι:Nat→Option Nat
 amb:Nat→Prop
 B:Nat
def encE (e:MapEntry):Value:=.tuple #[e.key,e.val,.int .i64 e.born]
def encM (arr:Array MapEntry) (clk:Nat):Value:=.tuple #[.int .i64 clk,.tuple (arr.toList.map encE).toArray]
def mAddr (c:Nat):Addr:=⟨c,0,some default⟩
def EntOk (arr:Array MapEntry) (clk:Nat):Prop:=(arr.toList.map (·.born)).Pairwise (· ≠ ·)∧(∀e∈arr.toList,e.born < clk)∧(arr.toList.map (·.key)).Pairwise (· ≠ ·)
inductive VR (ι:Nat→Option Nat) (csz:Nat→Option Nat) (imm:Bool→Addr→Value→Prop):V→Value→Prop
 | any (u):VR ι csz imm .any u
 | int (k n):VR ι csz imm (.int k n) (.int k n)
 | bool (b):VR ι csz imm (.bool b) (.bool b)
 | str (s):VR ι csz imm (.str s) (.string s)
 | agg (cs:List V) (us:List Value) (hl:cs.length=us.length) (h:∀(j:Nat) (v:V) (u:Value),cs[j]? = some v→us[j]? = some u→VR ι csz imm v u):VR ι csz imm (.agg cs) (.agg us.toArray)
 | tup (cs:List V) (us:List Value) (hl:cs.length=us.length) (h:∀(j:Nat) (v:V) (u:Value),cs[j]? = some v→us[j]? = some u→VR ι csz imm v u):VR ι csz imm (.tup cs) (.tuple us.toArray)
 | snil (A):VR ι csz imm .snil (.slice A 0 0)
 | sl (fr:Bool) (sz:Nat) (xs:List (List V)) (A:Option Addr) (cap:Nat) (us:Nat→Value) (hcap:xs.length≤cap) (hm:cap≤maxLen)
   (hA:xs ≠ []→∃ad,A=some ad∧ad.spot=none) (hrow:∀x,x∈xs→x.length=sz)
   (hc:∀(j:Nat) (v:V),xs.flatten[j]? = some v→∀ad,A=some ad→imm fr ⟨ad.block,ad.off + j,none⟩ (us j))
   (hv:∀(j:Nat) (v:V),xs.flatten[j]? = some v→VR ι csz imm v (us j)):VR ι csz imm (.sl fr sz xs) (.slice A xs.length cap)
 | iptr (fr:Bool) (cs:List V) (ad:Addr) (us:Nat→Value) (hs:ad.spot=none)
   (hc:∀(j:Nat) (v:V),cs[j]? = some v→imm fr ⟨ad.block,ad.off + j,none⟩ (us j))
   (hv:∀(j:Nat) (v:V),cs[j]? = some v→VR ι csz imm v (us j)):VR ι csz imm (.iptr fr cs) (.pointer (some ad))
 | nilp:VR ι csz imm .nilp (.pointer none)
 | ptr (b col c) (h:ι b=some c):VR ι csz imm (.ptr b col) (.pointer (some ⟨c,col,none⟩))
 | eptr (b sz row col c) (h:ι b=some c):VR ι csz imm (.eptr b sz row col) (.pointer (some ⟨c,row * sz + col,none⟩))
 | osl (b sz row n c cap m) (h:ι b=some c) (hz:csz c=some m) (he:(row + cap) * sz=m) (hn:n≤cap) (hm:cap≤maxLen):VR ι csz imm (.osl b sz row n) (.slice (some ⟨c,row * sz,none⟩) n cap)
 | oslz (b sz row A):VR ι csz imm (.osl b sz row 0) (.slice A 0 0)
 | nilf:VR ι csz imm .nilf .nilFunc
 | fn (f:Fn) (fs cs:List V) (us ws:List Value) (hf:fs.length=us.length) (hc:cs.length=ws.length) (h1:∀(j:Nat) (v:V) (u:Value),fs[j]? = some v→us[j]? = some u→VR ι csz imm v u)
   (h2:∀(j:Nat) (v:V) (u:Value),cs[j]? = some v→ws[j]? = some u→VR ι csz imm v u):VR ι csz imm (.fn f fs cs) (.func f us.toArray ws.toArray)
 | nili:VR ι csz imm .nili .nilIface
 | ifc (t:TypeId) (v:V) (u:Value) (h:VR ι csz imm v u):VR ι csz imm (.ifc t v) (.iface t u)
 | opt (c:Bool) (v:V) (u:Value) (h:c=true→VR ι csz imm v u) (h0:c=false→u=.tuple #[]):VR ι csz imm (.opt c v) u
 | yld (b c:Nat) (h:ι b=some c):VR ι csz imm (.yld b) (.func (.yield c) #[] #[])
 | ubool (b:Bool):VR ι csz imm .ubool (.bool b)
 | psl (b sz row n c cap m) (h:ι b=some c) (hz:csz c=some m) (he:(row + cap) * sz=m) (hn:n≤cap) (hm:cap≤maxLen):VR ι csz imm (.psl b sz row n) (.slice (some ⟨c,row * sz,none⟩) n cap)
 | pin (u:Value) (v:V) (h:VR ι csz imm v u):VR ι csz imm (.pin u v) u
 | mapp (b c:Nat) (h:ι b=some c):VR ι csz imm (.mapp b) (.map (some c))
 | nilm:VR ι csz imm .nilm (.map none)
 | imap (fr:Bool) (es:List (V × V)) (c:Nat) (arr:Array MapEntry) (clk:Nat) (hc:imm fr (mAddr c) (encM arr clk)) (hok:EntOk arr clk) (hl:es.length=arr.toList.length)
   (hk:∀(j:Nat) (kv:V × V) (e:MapEntry),es[j]? = some kv→arr.toList[j]? = some e→VR ι csz imm kv.1 e.key)
   (hv:∀(j:Nat) (kv:V × V) (e:MapEntry),es[j]? = some kv→arr.toList[j]? = some e→VR ι csz imm kv.2 e.val):VR ι csz imm (.imap fr es) (.map (some c))
theorem VR.mono {ι ι':Nat→Option Nat} {csz csz':Nat→Option Nat} {imm imm':Bool→Addr→Value→Prop}
  (hι:∀b c,ι b=some c→ι' b=some c) (hz:∀c m,csz c=some m→csz' c=some m) (hi:∀fr a u,imm fr a u→imm' fr a u)
  {v:V} {u:Value} (h:VR ι csz imm v u):VR ι' csz' imm' v u:=by
 induction h with
 | any u=>exact .any u
 | int k n=>exact .int k n
 | bool b=>exact .bool b
 | str s=>exact .str s
 | agg cs us hl _ ih=>exact .agg cs us hl ih
 | tup cs us hl _ ih=>exact .tup cs us hl ih
 | snil A=>exact .snil A
 | sl fr sz xs A cap us hcap hm hA hrow hc _ ih=>exact .sl fr sz xs A cap us hcap hm hA hrow (fun j v hj ad ha=>hi _ _ _ (hc j v hj ad ha)) ih
 | iptr fr cs ad us hs hc _ ih=>exact .iptr fr cs ad us hs (fun j v hj=>hi _ _ _ (hc j v hj)) ih
 | nilp=>exact .nilp
 | ptr b col c h=>exact .ptr b col c (hι _ _ h)
 | eptr b sz row col c h=>exact .eptr b sz row col c (hι _ _ h)
 | osl b sz row n c cap m h z he hn hm=>exact .osl b sz row n c cap m (hι _ _ h) (hz _ _ z) he hn hm
 | oslz b sz row A=>exact .oslz b sz row A
 | nilf=>exact .nilf
 | fn f fs cs us ws hf hc _ _ ih1 ih2=>exact .fn f fs cs us ws hf hc ih1 ih2
 | nili=>exact .nili
 | ifc t v u _ ih=>exact .ifc t v u ih
 | opt c v u _ h0 ih=>exact .opt c v u ih h0
 | yld b c h=>exact .yld b c (hι _ _ h)
 | ubool b=>exact .ubool b
 | psl b sz row n c cap m h z he hn hm=>exact .psl b sz row n c cap m (hι _ _ h) (hz _ _ z) he hn hm
 | pin u v _ ih=>exact .pin u v ih
 | mapp b c h=>exact .mapp b c (hι _ _ h)
 | nilm=>exact .nilm
 | imap fr es c arr clk hc hok hl _ _ ih1 ih2=>exact .imap fr es c arr clk (hi _ _ _ hc) hok hl ih1 ih2
def csz (w:World) (c:Nat):Option Nat:=
 match w.heap[c]? with
 | some (.cells cs _ _)=>some cs.size
 | _=>none
def rd (w:World) (a:Addr):Option Value:=
 match a.spot with
 | none=>w.cell? a
 | some _=>match w.heap[a.block]? with
  | some (.map arr clk)=>some (encM arr clk)
  | _=>none
theorem rd_of_block {w w':World} {a:Addr} (h:w'.heap[a.block]? = w.heap[a.block]?):rd w' a=rd w a:=by
 unfold rd
 rw[World.cell?_of_block h,h]
def imm (G:Gh) (w:World) (fr:Bool) (a:Addr) (u:Value):Prop:=rd w a=some u∧G.amb a.block∧(fr=true→G.B≤a.block∧w.frozen? a=false)∧(a.spot=none→u.oneCell'=true)
theorem frozen_of_block {w w':World} {a:Addr} (h:w'.heap[a.block]? = w.heap[a.block]?):w'.frozen? a=w.frozen? a:=by
 unfold World.frozen?
 rw[h]
abbrev vr (G:Gh) (w:World):V→Value→Prop:=VR G.ι (csz w) (imm G w)
def Holds (G:Gh) (w:World) (b:Nat) (fr ex:Bool) (ty:TypeId) (vs:List V):Prop:=
 ∃c cs,G.ι b=some c∧w.heap[c]? = some (.cells cs ty (0,0))∧vs.length≤cs.size∧(ex=true→vs.length=cs.size) ∧
   (fr=true→G.B≤c)∧(∀(j:Nat) (v:V),vs[j]? = some v→∃u:Value,cs[j]? = some u∧u.oneCell'=true∧vr G w v u)∧∀(j:Nat) (u:Value),cs[j]? = some u→u.oneCell'=true
def MapH (G:Gh) (w:World) (b:Nat) (es:List (V × V)):Prop:=
 ∃(c:Nat) (arr:Array MapEntry) (clk:Nat),G.ι b=some c∧w.heap[c]? = some (.map arr clk)∧EntOk arr clk∧es.length=arr.toList.length ∧
  ∀(j:Nat) (kv:V × V) (e:MapEntry),es[j]? = some kv→arr.toList[j]? = some e→vr G w kv.1 e.key∧vr G w kv.2 e.val
def IterH (G:Gh) (w:World) (b:Nat) (cur:Option (V × V)) (rest:List (V × V)):Prop:=
 ∃c,G.ι b=some c∧((rest=[]∧cur=none∧w.heap[c]? = some (.mapIter none 0 #[] 0)) ∨
  ∃(cm:Nat) (arr:Array MapEntry) (clk:Nat) (fr:Bool) (seen:Array Nat) (idx:List Nat),w.heap[c]? = some (.mapIter (some cm) clk seen clk)∧imm G w fr (mAddr cm) (encM arr clk)∧EntOk arr clk ∧
   idx.Pairwise (· ≠ ·)∧(∀j,j∈idx↔∃e,arr.toList[j]? = some e∧e.born ∉ seen.toList)∧rest.length=idx.length ∧
   (∀(k j:Nat) (kv:V × V) (e:MapEntry),idx[k]? = some j→rest[k]? = some kv→arr.toList[j]? = some e→vr G w kv.1 e.key∧vr G w kv.2 e.val) ∧
   ∀kv,cur=some kv→∃(j:Nat) (e:MapEntry),arr.toList[j]? = some e∧seen.back? = some e.born∧vr G w kv.1 e.key∧vr G w kv.2 e.val)
def BlkOk (G:Gh) (w:World) (b:Nat):Blk→Prop
 | .map es=>MapH G w b es
 | .iter cur rest=>IterH G w b cur rest
 | .var fr ty cells=>Holds G w b fr true ty cells
 | .arr fr ex ty sz rows=>(∀x,x∈rows→x.length=sz)∧((G.ι b=none∧rows=[])∨Holds G w b fr ex ty rows.flatten)
 | .loop N t ps asg body st pend=>∃c r,G.ι b=some c∧w.heap[c]? = some (.loop r)∧r.state=st∧r.pending=pend∧r.params=ps.toArray∧r.assign=asg∧r.body=body∧r.tmps.size=N∧∀i,vr G w (look t i) (r.tmps.getD i undef)
theorem encE_inj {a b:MapEntry} (h:encE a=encE b):a=b:=by
 obtain⟨k,v,n⟩:=a
 obtain⟨k',v',n'⟩:=b
 simp only[encE,Value.tuple.injEq,Array.mk.injEq,List.cons.injEq,Value.int.injEq,true_and,and_true]at h
 obtain⟨rfl,rfl,h⟩:=h
 congr 1
 omega
theorem encM_inj {a b:Array MapEntry} {n m:Nat} (h:encM a n=encM b m):a=b∧n=m:=by
 simp only[encM,Value.tuple.injEq,Array.mk.injEq,List.cons.injEq,Value.int.injEq,true_and,and_true]at h
 obtain⟨h1,h2⟩:=h
 exact⟨by
  have:=(List.map_inj_right (fun x y=>encE_inj)).1 h2
  exact Array.ext' this,by omega⟩
theorem rd_map {w:World} {c:Nat} {arr:Array MapEntry} {clk:Nat}:rd w (mAddr c)=some (encM arr clk)↔w.heap[c]? = some (.map arr clk):=by
 unfold rd mAddr
 simp only
 constructor
 ·intro h
  split at h
  ·rename_i arr' clk' hh
   obtain⟨rfl,rfl⟩:=encM_inj (Option.some.inj h)
   exact hh
  ·cases h
 ·intro h
  rw[h]
def GlOk (G:Gh) (w:World):Prop:=∀p∈glob,G.amb p.1∧∃o,w.heap[p.1]? = some o∧p.2 o
theorem GlOk.to {G G':Gh} {w w':World} (h:GlOk G w) (ha:∀c,G.amb c→G'.amb c) (hk:∀c,G.amb c→w'.heap[c]? = w.heap[c]?):GlOk G' w':=fun p hp=>⟨ha _ (h p hp).1,by rw[hk _ (h p hp).1];exact(h p hp).2⟩
structure HR (G:Gh) (h:Heap) (nx:Nat) (w:World):Prop where
 amb_lt:∀c,G.amb c→c < w.heap.size
 B_le:G.B≤w.heap.size
 dom:∀b,nx≤b→G.ι b=none
 own:∀b blk,hget h b=some blk→BlkOk G w b blk
 inj:∀b b' blk blk' c,hget h b=some blk→hget h b'=some blk'→G.ι b=some c→G.ι b'=some c→b=b'
 apart:∀b blk c,hget h b=some blk→G.ι b=some c→¬ G.amb c
 lt:∀b c,G.ι b=some c→c < w.heap.size
 hdom:∀b blk,hget h b=some blk→b < nx
 gl:GlOk G w
def St.get (s:St) (i:Nat):V:=look s.t i
structure Sim (G:Gh) (N:Nat) (s:St) (a:Act) (w:World):Prop where
 size:a.tmps.size=N
 tmp:∀i,vr G w (s.get i) (a.tmps.getD i undef)
 hr:HR G s.h s.nx w
structure Evo (base:Nat) (G:Gh) (w:World) (G':Gh) (w':World):Prop where
 os:w'.os=w.os
 tape:w'.tape=w.tape
 output:w'.output=w.output
 size:w.heap.size≤w'.heap.size
 B:G'.B=G.B
 amb:∀c,G.amb c→G'.amb c
 keep:∀c,G.amb c→w'.heap[c]? = w.heap[c]?
 csz:∀c m,csz w c=some m→csz w' c=some m
 ids:∀b c,b < base→G.ι b=some c→G'.ι b=some c
 keepu:∀c,c < w.heap.size→(∀b,G.ι b ≠ some c)→w'.heap[c]? = w.heap[c]?
 ambn:∀c,G'.amb c→c < w.heap.size→G.amb c∨∃b,G.ι b=some c
 idn:∀b c,G'.ι b=some c→c < w.heap.size→∃b',G.ι b'=some c
theorem Evo.refl (base:Nat) (G:Gh) (w:World):Evo base G w G w:=
 ⟨rfl,rfl,rfl,Nat.le_refl _,rfl,fun _ h=>h,fun _ _=>rfl,fun _ _ h=>h,fun _ _ _ h=>h,fun _ _ _=>rfl,fun _ h _=>.inl h,fun b _ h _=>⟨b,h⟩⟩
theorem Evo.trans {base:Nat} {G₁ G₂ G₃:Gh} {w₁ w₂ w₃:World} (h:Evo base G₁ w₁ G₂ w₂) (k:Evo base G₂ w₂ G₃ w₃):Evo base G₁ w₁ G₃ w₃:=
  ⟨k.os.trans h.os,k.tape.trans h.tape,k.output.trans h.output,Nat.le_trans h.size k.size,k.B.trans h.B,fun c hc=>k.amb c (h.amb c hc),
   fun c hc=>(k.keep c (h.amb c hc)).trans (h.keep c hc),fun c m hm=>k.csz c m (h.csz c m hm),fun b c hb hc=>k.ids b c hb (h.ids b c hb hc),
   fun c hc hn=>(k.keepu c (Nat.lt_of_lt_of_le hc h.size) (fun b hb=>by obtain⟨b',hb'⟩:=h.idn b c hb hc;exact hn b' hb')).trans (h.keepu c hc hn),
   fun c hc hlt=>by
    rcases k.ambn c hc (Nat.lt_of_lt_of_le hlt h.size)with h1|⟨b,h1⟩
    · exact h.ambn c h1 hlt
    · exact .inr (h.idn b c h1 hlt),
   fun b c hc hlt=>by
    obtain⟨b',h1⟩:=k.idn b c hc (Nat.lt_of_lt_of_le hlt h.size)
    exact h.idn b' c h1 hlt⟩
theorem Evo.less {base base':Nat} {G G':Gh} {w w':World} (h:Evo base G w G' w') (hb:base'≤base):Evo base' G w G' w':=
 ⟨h.os,h.tape,h.output,h.size,h.B,h.amb,h.keep,h.csz,fun b c hb' hc=>h.ids b c (by omega) hc,h.keepu,h.ambn,h.idn⟩
theorem GlOk.evo {base:Nat} {G G':Gh} {w w':World} (h:GlOk G w) (he:Evo base G w G' w'):GlOk G' w':=h.to he.amb he.keep
theorem Evo.imm {base:Nat} {G G':Gh} {w w':World} (h:Evo base G w G' w') {fr:Bool} {a:Addr} {u:Value} (hi:imm G w fr a u):imm G' w' fr a u:=
 ⟨(rd_of_block (h.keep _ hi.2.1)).trans hi.1,h.amb _ hi.2.1,fun hf=>by rw[h.B,frozen_of_block (h.keep _ hi.2.1)];exact hi.2.2.1 hf,hi.2.2.2⟩
theorem Evo.vr {base:Nat} {G G':Gh} {w w':World} (h:Evo base G w G' w') (hd:∀b,base≤b→G.ι b=none) {v:V} {u:Value} (hv:vr G w v u):vr G' w' v u:=
 VR.mono (fun b c hb=>h.ids b c (by
  rcases Nat.lt_or_ge b base with hlt|hge
  ·exact hlt
  ·rw[hd b hge]at hb;cases hb) hb) h.csz (fun _ _ _ hi=>h.imm hi) hv
inductive TK where
 | int (k:IntKind)|bool|str|slice (e:Nat)|ptr (e:Nat)|struct (fs:List (Nat × Nat))|array (n e:Nat)
 | func|iface|map (k e:Nat)|tuple|other
structure TI where
 k:TK
 size:Nat
 bytes:Nat
 zero:List Value
 key:Bool:=false
 mkey:Bool:=false
instance:Inhabited TI:=⟨⟨.other,0,0,[],false,false⟩⟩
abbrev Tab:=Nat→TI
def nth {α:Type} (d:α):List α→Nat→α
 | [],_=>d
 | x :: _,0=>x
 | _ :: r,n + 1=>nth d r n
def tabOf (l:List TI):Tab:=nth default l
def DescOk:TK→TypeDesc→Prop
 | .int k,d=>d=.int k
 | .bool,d=>d=.bool
 | .str,d=>d=.string
 | .slice e,d=>d=.slice e
 | .ptr e,d=>d=.pointer e
 | .struct fs,d=>∃fields,d=.struct fields∧fields.toList.map (fun f=>(f.offset,f.type))=fs
 | .array n e,d=>d=.array n e
 | .func,d=>∃a b c,d=.func a b c
 | .iface,d=>∃ms,d=.interface ms
 | .map k e,d=>d=.map k e
 | .tuple,d=>∃es,d=.tuple es
 | .other,_=>True
def zAgg:Value→Bool
 | .agg _=>true
 | _=>false
def isAgg:TK→Bool
 | .struct _|.array _ _=>true
 | _=>false
def TabOk (P:Program) (T:Tab):Prop:=
 (∀t,(∃i z,P.info? t=some i∧i.size=(T t).size∧i.bytes=(T t).bytes∧i.zero=some z∧z.cells.toList=(T t).zero∧∃d,P.underlying t=some d∧DescOk (T t).k d∧(T t).zero.length=(T t).size∧zAgg z=isAgg (T t).k)∨(T t).k=.other) ∧
 (∀t,(T t).key=true→P.keyTypeAt 60 t=true∧P.eqGuardType P.depth t=false) ∧
 ∀t,(T t).mkey=true→P.keyTypeAt 60 t=true∧P.tiled 60 t=true∧P.keyType t=true∧60≤P.types.size + 1
def V.const:Value→V
 | .int k n=>.int k n
 | .bool b=>.bool b
 | .string s=>.str s
 | .nilIface=>.nili
 | .nilFunc=>.nilf
 | .slice none 0 0=>.snil
 | .pointer none=>.nilp
 | .map none=>.nilm
 | _=>.any
def V.one:V→Bool
 | .any|.agg _|.tup _|.opt _ _|.pin _ _=>false
 | _=>true
def V.unpin:V→V
 | .pin _ v=>v
 | v=>v
def ev (s:St):Operand→V
 | .tmp i=>(s.get i).unpin
 | .const v=>V.const v
 | .func f=>.fn (.func f) [] []
 | .global _=>.any
def argK (g:Option Bool) (v:V) (K:V→Prop):Prop:=
 match g with
 | none=>K v
 | some g=>match v with
  | .opt c v=>(g=true→c=true)∧K v
  | v=>K v
def gd (g:Option Bool) (p:Prop):Prop:=match g with|none=>p|some g=>g=true→p
def takeK:Nat→List V→(List V→Prop)→Prop
 | 0,_,K=>K []
 | n + 1,x :: xs,K=>takeK n xs fun r=>K (x :: r)
 | _ + 1,[],_=>False
def dropK:Nat→List V→(List V→Prop)→Prop
 | 0,xs,K=>K xs
 | n + 1,_ :: xs,K=>dropK n xs K
 | _ + 1,[],_=>False
def putK:Nat→List V→List V→(List V→Prop)→Prop
 | 0,xs,[],K=>K xs
 | 0,_ :: xs,y :: ys,K=>putK 0 xs ys fun r=>K (y :: r)
 | n + 1,x :: xs,ys,K=>putK n xs ys fun r=>K (x :: r)
 | 0,[],_ :: _,_=>False
 | _ + 1,[],_,_=>False
def allOne:List V→Bool
 | []=>true
 | v :: r=>match v.one with|true=>allOne r|false=>false
def lenIs:List V→Nat→Bool
 | [],0=>true
 | _ :: r,n + 1=>lenIs r n
 | _,_=>false
def forceV (v:V) (K:V→Prop):Prop:=
 match v with
 | .any=>K .any
 | .int k n=>K (.int k n)
 | .bool b=>K (.bool b)
 | .str s=>K (.str s)
 | .agg cs=>K (.agg cs)
 | .tup vs=>K (.tup vs)
 | .snil=>K .snil
 | .sl fr sz xs=>K (.sl fr sz xs)
 | .osl b sz row n=>K (.osl b sz row n)
 | .nilp=>K .nilp
 | .ptr b col=>K (.ptr b col)
 | .eptr b sz row col=>K (.eptr b sz row col)
 | .iptr fr cs=>K (.iptr fr cs)
 | .nilf=>K .nilf
 | .fn f first cap=>K (.fn f first cap)
 | .nili=>K .nili
 | .ifc t v=>K (.ifc t v)
 | .opt c v=>K (.opt c v)
 | .ubool=>K .ubool
 | .psl b sz row n=>K (.psl b sz row n)
 | .yld b=>K (.yld b)
 | .pin u v=>K (.pin u v)
 | .mapp b=>K (.mapp b)
 | .nilm=>K .nilm
 | .imap fr es=>K (.imap fr es)
theorem forceV_eq (v:V) (K:V→Prop):forceV v K=K v:=by cases v<;>rfl
def forceN (n:Nat) (K:Nat→Prop):Prop:=
 match n with
 | 0=>K 0|1=>K 1|2=>K 2|3=>K 3|4=>K 4|5=>K 5|6=>K 6|7=>K 7|8=>K 8|9=>K 9|10=>K 10
 | 11=>K 11|12=>K 12|13=>K 13|14=>K 14|15=>K 15|16=>K 16|17=>K 17|18=>K 18|19=>K 19|20=>K 20
 | 21=>K 21|22=>K 22|23=>K 23|24=>K 24|25=>K 25|26=>K 26|27=>K 27|28=>K 28|29=>K 29|30=>K 30
 | n=>K n
theorem forceN_eq (n:Nat) (K:Nat→Prop):forceN n K=K n:=by unfold forceN;split<;>rfl
def forceH:Heap→(Heap→Prop)→Prop
 | [],K=>K []
 | x :: r,K=>forceH r fun r=>K (x :: r)
theorem forceH_eq:∀(h:Heap) (K:Heap→Prop),forceH h K=K h
 | [],_=>rfl
 | x :: r,K=>forceH_eq r _
def cellsK (n:Nat) (v:V) (K:List V→Prop):Prop:=
 match v with
 | .agg cs=>match lenIs cs n with
  | true=>match allOne cs with|true=>K cs|false=>False
  | false=>False
 | v=>match v.one with
  | true=>match Nat.beq n 1 with|true=>forceV v fun v=>K [v]|false=>False
  | false=>False
def known:TK→Bool
 | .other=>false
 | _=>true
def szK (ti:TI) (K:Nat→Prop):Prop:=match known ti.k with|true=>forceN ti.size K|false=>False
def partK (ti:TI) (cs:List V) (K:V→Prop):Prop:=
 szK ti fun n=>match isAgg ti.k with
 | true=>takeK n cs fun r=>K (.agg r)
 | false=>match cs with
  | v :: _=>K v
  | []=>False
def kEq (a b:IntKind):Bool:=match a,b with
 | .i8,.i8|.i16,.i16|.i32,.i32|.i64,.i64|.u8,.u8|.u16,.u16|.u32,.u32|.u64,.u64=>true
 | _,_=>false
def fieldsK (T:Tab) (L:Nat→List V→(List Lit→Prop)→Prop) (cs:List V):List (Nat × Nat)→(List Lit→Prop)→Prop
 | [],K=>K []
 | f :: r,K=>dropK f.1 cs fun c=>takeK (T f.2).size c fun c=>L f.2 c fun l=>fieldsK T L cs r fun ls=>K (l ++ ls)
def litK (T:Tab):Nat→Nat→List V→(List Lit→Prop)→Prop
 | 0,_,_,_=>False
 | d + 1,t,cs,K=>match(T t).k,cs with
  | .bool,[.bool b]=>K [.bool b]
  | .int q,[.int q' n]=>match kEq q' q with
   | true=>(Lit.int q n).wf=true∧K [.int q n]
   | false=>False
  | .str,[.str s]=>s.size≤maxLen∧K [.string s.data.toList]
  | .struct fs,cs=>match lenIs cs (T t).size with
   | true=>fieldsK T (litK T d) cs fs K
   | false=>False
  | _,_=>False
def aggK (T:Tab) (op:BinOp) (t:Nat) (cs ds:List V) (K:V→Prop):Prop:=
 match(T t).key,(T t).k with
 | true,.struct _=>litK T 60 t cs fun la=>litK T 60 t ds fun lb=>match op with
  | .eql=>∃r:Bool,(r=true↔la=lb)∧K (.bool r)
  | .neq=>∃r:Bool,(r=true↔la=lb)∧K (.bool (!r))
  | _=>False
 | _,_=>False
def catS (x y:ByteArray):ByteArray:=⟨(x.data.toList ++ y.data.toList).toArray⟩
def atS (b:ByteArray) (i:Nat):Int:=((b.data.toList[i]?).getD 0).toNat
def binK (tk:TK) (op:BinOp) (a b:V) (K:V→Prop):Prop:=
 match a,b with
 | .int k x,.int k' y=>
  match op with
  | .shl=>0≤y∧K (.int k (k.wrap (x * 2 ^ (min y.toNat k.bits))))
  | .shr=>0≤y∧K (.int k (x.fdiv (2 ^ (min y.toNat k.bits))))
  | op=>match kEq k k' with
   | false=>False
   | true=>match op with
    | .add=>K (.int k (k.wrap (x + y)))
    | .sub=>K (.int k (k.wrap (x - y)))
    | .mul=>K (.int k (k.wrap (x * y)))
    | .quo=>y ≠ 0∧K (.int k (k.wrap (x.tdiv y)))
    | .rem=>y ≠ 0∧K (.int k (x.tmod y))
    | .and=>K (.int k (bits .and k x y))
    | .or=>K (.int k (bits .or k x y))
    | .xor=>K (.int k (bits .xor k x y))
    | .andNot=>K (.int k (bits .andNot k x y))
    | .eql=>K (.bool (x == y))
    | .neq=>K (.bool (x != y))
    | .lss=>K (.bool (decide (x < y)))
    | .leq=>K (.bool (decide (x≤y)))
    | .gtr=>K (.bool (decide (y < x)))
    | .geq=>K (.bool (decide (y≤x)))
    | _=>False
 | .bool x,.bool y=>match tk with
  | .bool=>match op with
   | .eql=>K (.bool (x == y))
   | .neq=>K (.bool (x != y))
   | _=>False
  | _=>False
 | .str x,.str y=>match op with
  | .add=>((x.size + y.size:Nat):Int)≤9223372036854775807∧K (.str (catS x y))
  | .eql=>K (.bool (x.data.toList == y.data.toList))
  | .neq=>K (.bool (x.data.toList != y.data.toList))
  | _=>False
 | .fn _ _ _,.nilf=>match tk with
  | .func=>match op with
   | .eql=>K (.bool false)
   | .neq=>K (.bool true)
   | _=>False
  | _=>False
 | _,_=>False
def binT (T:Tab) (t:Nat) (op:BinOp) (a b:V) (K:V→Prop):Prop:=
 match a with
 | .agg cs=>match b with
  | .agg ds=>aggK T op t cs ds K
  | _=>False
 | a=>binK (T t).k op a b K
def pickK (c:Bool) (a b:V) (K:V→Prop):Prop:=
 match c with
 | true=>K a
 | false=>K b
def rowsK (h:Heap) (v:V) (K:Nat→List (List V)→Heap→Prop):Prop:=
 match v with
 | .sl _ sz xs=>K sz xs []
 | .osl b sz row n=>match hget h b with
  | some (.arr fr ex ty sz' rows)=>(sz'=sz)∧n≤(rows.drop row).length∧K sz ((rows.drop row).take n) [(b,some (.arr fr ex ty sz' rows))]
  | _=>False
 | .snil=>∃z,K z [] []
 | .psl b sz row n=>match hget h b with
  | some (.arr fr ex ty sz' rows)=>(sz'=sz)∧n≤(rows.drop row).length∧K sz ((rows.drop row).take n) [(b,some (.arr fr ex ty sz' rows))]
  | _=>False
 | _=>False
def nilC:Operand→Bool
 | .const v=>match v with
  | .slice none _ _=>true
  | _=>false
 | _=>false
def nilK (v:V) (K:V→Prop):Prop:=
 match v with
 | .snil=>K .ubool
 | .sl _ _ xs=>match xs with
  | []=>K .ubool
  | _ :: _=>K (.bool false)
 | .osl _ _ _ n=>match n with
  | 0=>K .ubool
  | _ + 1=>K (.bool false)
 | _=>False
inductive Cut where
 | own|lies|past
abbrev OK:=V→Heap→Heap→Nat→Prop
def evs (g:Option Bool) (s:St):List Operand→(List V→Prop)→Prop
 | [],K=>K []
 | x :: r,K=>argK g (ev s x) fun v=>evs g s r fun vs=>K (v :: vs)
def knownAll (T:Tab):List (Nat × Nat)→Bool
 | []=>true
 | (_,t) :: r=>match known (T t).k with|true=>knownAll T r|false=>false
def fillK (fs:List (Nat × Nat)) (T:Tab) (cs:List V) (s:St) (g:Option Bool):List (Nat × Operand)→(List V→Prop)→Prop
 | [],K=>K cs
 | (i,x) :: r,K=>match Nat.blt i fs.length with
  | true=>argK g (ev s x) fun v=>cellsK (T (nth (0,0) fs i).2).size v fun vs=>putK (nth (0,0) fs i).1 cs vs fun cs'=>fillK fs T cs' s g r K
  | false=>False
def setRow {α:Type}:List α→Nat→α→List α
 | [],_,_=>[]
 | _ :: r,0,y=>y :: r
 | x :: r,n + 1,y=>x :: setRow r n y
def forceR:List (List V)→(List (List V)→Prop)→Prop
 | [],K=>K []
 | x :: r,K=>forceR r fun r=>K (x :: r)
theorem forceR_eq:∀(h:List (List V)) (K:List (List V)→Prop),forceR h K=K h
 | [],_=>rfl
 | x :: r,K=>forceR_eq r _
def fillRowsK (sz:Nat) (rows:List (List V)) (s:St) (g:Option Bool):List (Nat × Operand)→(List (List V)→Prop)→Prop
 | [],K=>forceR rows K
 | (i,x) :: r,K=>match Nat.blt i rows.length with
  | true=>argK g (ev s x) fun v=>cellsK sz v fun vs=>fillRowsK sz (setRow rows i vs) s g r K
  | false=>False
def rep {α:Type} (x:α):Nat→List α
 | 0=>[]
 | n + 1=>x :: rep x n
def constsK:List Value→(List V→Prop)→Prop
 | [],K=>K []
 | v :: r,K=>match(V.const v).one with
  | true=>forceV (V.const v) fun c=>constsK r fun vs=>K (c :: vs)
  | false=>False
def nil2 (tk:TK) (y:Operand) (a:V):Option Bool:=
 match y with
 | .const c=>match c with
  | .nilIface=>match tk with
   | .iface=>match a with
    | .nili=>some true
    | .ifc _ _=>some false
    | _=>none
   | _=>none
  | .pointer none=>match tk with
   | .ptr _=>match a with
    | .nilp=>some true
    | .ptr _ _=>some false
    | .eptr _ _ _ _=>some false
    | .iptr _ _=>some false
    | _=>none
   | _=>none
  | .map none=>match tk with
   | .map _ _=>match a with
    | .nilm=>some true
    | .mapp _=>some false
    | .imap _ _=>some false
    | _=>none
   | _=>none
  | _=>none
 | _=>none
def eqK (op:BinOp) (r:Bool) (K:V→Prop):Prop:=
 match op with
 | .eql=>K (.bool r)
 | .neq=>K (.bool (!r))
 | _=>False
def keyC:V→List V
 | .agg cs=>cs
 | v=>[v]
def flatC:V→Bool
 | .int _ _|.bool _|.str _=>true
 | _=>false
def aggV:V→Bool
 | .agg _=>true
 | _=>false
def KeyV (T:Tab) (t:Nat) (v:V):Prop:=(T t).mkey=true∧aggV v=isAgg (T t).k∧(keyC v).all flatC=true∧∃la,litK T 60 t (keyC v) fun l=>l=la
def KeysV (T:Tab) (t:Nat) (es:List (V × V)):Prop:=∀kv∈es,KeyV T t kv.1
def MPos (es:List (V × V)) (key:V):Option Nat→Prop
 | none=>∀kv∈es,kv.1 ≠ key
 | some i=>∃v,es[i]? = some (key,v)
def MVal (es:List (V × V)) (key:V):Option V→Prop
 | none=>∀kv∈es,kv.1 ≠ key
 | some v=>∃i:Nat,es[i]? = some (key,v)
def mput (es:List (V × V)) (key v:V):Option Nat→List (V × V)
 | none=>es ++ [(key,v)]
 | some i=>es.set i (key,v)
def mdel (es:List (V × V)):Option Nat→List (V × V)
 | none=>es
 | some i=>es.eraseIdx i
def esK (h:Heap) (v:V) (K:List (V × V)→Heap→Prop):Prop:=
 match v with
 | .nilm=>K [] []
 | .imap _ es=>K es []
 | .mapp b=>match hget h b with
  | some (.map es)=>K es [(b,some (.map es))]
  | _=>False
 | _=>False
def zeroK (ti:TI) (K:V→Prop):Prop:=
 constsK ti.zero fun cs=>szK ti fun n=>match lenIs cs n with
  | true=>match isAgg ti.k with
   | true=>K (.agg cs)
   | false=>match cs with
    | [v]=>K v
    | _=>False
  | false=>False
def okK (ok:Bool) (v:V) (b:Bool) (K:V→Prop):Prop:=
 match ok with
 | true=>K (.tup [v,.bool b])
 | false=>K v
def resvOk:Option Operand→Bool
 | none=>true
 | some (.const (.int _ _))=>true
 | _=>false
def bndK (g:Option Bool) (s:St) (x:Option Operand) (K:Nat→Prop→Prop):Prop:=
 match x with
 | none=>K 0 True
 | some x=>argK g (ev s x) fun v=>match v with
  | .int _ i=>K i.toNat (0≤i)
  | _=>False
def mupK (T:Tab) (s:St) (g:Option Bool) (t:Nat) (m k v:Operand) (K:OK):Prop:=
 match g,(T t).k,ev s m with
 | none,.map kt _,.mapp b=>match hget s.h b with
  | some (.map es)=>forceV (ev s k) fun k=>forceV (ev s v) fun v=>KeysV T kt es∧KeyV T kt k∧∃r,MPos es k r∧K .any [(b,some (.map es))] [(b,some (.map (mput es k v r)))] s.nx
  | _=>False
 | _,_,_=>False
def exec (T:Tab) (s:St) (g:Option Bool) (o:Oper) (K:OK):Prop:=
 match o.op with
 | .move x|.assign x=>argK g (ev s x) fun v=>K v [] [] s.nx
 | .pick c a b=>argK g (ev s c) fun c=>match c with
  | .bool c=>pickK c (ev s a) (ev s b) fun v=>K v [] [] s.nx
  | _=>False
 | .binOp op t x y _=>match nilC y with
  | true=>match(T t).k,op with
   | .slice _,.eql=>argK g (ev s x) fun a=>nilK a fun v=>K v [] [] s.nx
   | _,_=>False
  | false=>argK g (ev s x) fun a=>match nil2 (T t).k y a with
   | some r=>eqK op r fun v=>K v [] [] s.nx
   | none=>argK g (ev s y) fun b=>binT T t op a b fun v=>K v [] [] s.nx
 | .makeMap t r=>match g,(T t).k,resvOk r with
  | none,.map _ _,true=>forceN s.nx fun nx=>K (.mapp nx) [(nx,none)] [(nx,some (.map []))] (nx + 1)
  | _,_,_=>False
 | .mapUpdate t m k v|.insert t m k v=>mupK T s g t m k v K
 | .lookup t x i ok=>match(T t).k with
  | .map kt et=>argK g (ev s x) fun a=>argK g (ev s i) fun i=>forceV i fun i=>esK s.h a fun es rd=>KeysV T kt es∧KeyV T kt i∧∃r,MVal es i r∧match r with
   | some v=>okK ok v true fun v=>K v rd [] s.nx
   | none=>zeroK (T et) fun z=>okK ok z false fun v=>K v rd [] s.nx
  | _=>False
 | .range t x=>match g,(T t).k,ev s x with
  | none,.map _ _,.imap _ es=>forceN s.nx fun nx=>K (.ptr nx 0) [(nx,none)] [(nx,some (.iter none es))] (nx + 1)
  | none,.map _ _,.nilm=>forceN s.nx fun nx=>K (.ptr nx 0) [(nx,none)] [(nx,some (.iter none []))] (nx + 1)
  | _,_,_=>False
 | .entry x=>match ev s x with
  | .ptr b 0=>match hget s.h b with
   | some (.iter (some kv) rest)=>K (.tup [kv.1,kv.2]) [(b,some (.iter (some kv) rest))] [] s.nx
   | _=>False
  | _=>False
 | .unOp .not _ x=>argK g (ev s x) fun a=>match a with
  | .bool b=>K (.bool (!b)) [] [] s.nx
  | _=>False
 | .unOp .neg _ x=>argK g (ev s x) fun a=>match a with
  | .int k n=>K (.int k (k.wrap (-n))) [] [] s.nx
  | _=>False
 | .convert t d x=>argK g (ev s x) fun a=>match a,(T d).k with
  | .int _ n,.int k=>szK (T t) fun _=>K (.int k (k.wrap n)) [] [] s.nx
  | a,.str=>match(T t).k with
   | .slice e=>match(T e).k with
    | .int .u8=>match a with
     | .snil=>K (.str ByteArray.empty) [] [] s.nx
     | a=>rowsK s.h a fun sz rows rd=>sz=1∧∃b:ByteArray,rows=b.data.toList.map (fun x=>[V.int .u8 x.toNat])∧K (.str b) rd [] s.nx
    | _=>False
   | _=>False
  | _,_=>False
 | .extract x i=>argK g (ev s x) fun a=>match a with
  | .tup vs=>dropK i vs fun r=>match r with
   | v :: _=>K v [] [] s.nx
   | []=>False
  | _=>False
 | .nilCheck x=>argK g (ev s x) fun a=>match a with
  | .ptr b c=>K (.ptr b c) [] [] s.nx
  | .eptr b sz r c=>K (.eptr b sz r c) [] [] s.nx
  | .iptr fr cs=>K (.iptr fr cs) [] [] s.nx
  | _=>False
 | .fieldAddr t x f=>argK g (ev s x) fun a=>match(T t).k with
  | .struct fs=>match nth (0,0) fs f with
   | (off,ft)=>szK (T ft) fun n=>match Nat.beq n 0,Nat.blt f fs.length with
    | false,true=>match a with
     | .ptr b c=>K (.ptr b (c + off)) [] [] s.nx
     | .eptr b sz r c=>K (.eptr b sz r (c + off)) [] [] s.nx
     | .iptr fr cs=>dropK off cs fun r=>K (.iptr fr r) [] [] s.nx
     | _=>False
    | _,_=>False
  | _=>False
 | .field t x f=>argK g (ev s x) fun a=>match(T t).k,a with
  | .struct fs,.agg cs=>match nth (0,0) fs f with
   | (off,ft)=>match Nat.blt f fs.length with
    | true=>dropK off cs fun r=>partK (T ft) r fun v=>K v [] [] s.nx
    | false=>False
  | _,_=>False
 | .indexAddr t x i=>argK g (ev s x) fun a=>argK g (ev s i) fun i=>match(T t).k,a,i with
  | .slice e,.sl fr sz xs,.int _ i=>szK (T e) fun n=>sz=n∧∃c,gd g (0≤i∧xs[i.toNat]? = some c)∧K (.iptr fr c) [] [] s.nx
  | .slice e,.osl b sz row n,.int _ i=>szK (T e) fun z=>sz=z∧gd g (0≤i∧i < n)∧K (.eptr b sz (row + i.toNat) 0) [] [] s.nx
  | .slice e,.psl b sz row n,.int _ i=>szK (T e) fun z=>sz=z∧gd g (0≤i∧i < n)∧K (.eptr b sz (row + i.toNat) 0) [] [] s.nx
  | _,_,_=>False
 | .index t x i=>argK g (ev s x) fun a=>argK g (ev s i) fun i=>match(T t).k,a,i with
  | .str,.str b,.int _ i=>gd g (0≤i∧i < b.size)∧K (.int .u8 (atS b i.toNat)) [] [] s.nx
  | _,_,_=>False
 | .load t x=>argK g (ev s x) fun a=>match a with
  | .iptr _ cs=>partK (T t) cs fun v=>K v [] [] s.nx
  | .ptr b c=>match hget s.h b with
   | some (.var fr ty cells)=>dropK c cells fun r=>partK (T t) r fun v=>K v [(b,some (.var fr ty cells))] [] s.nx
   | _=>False
  | .eptr b sz row c=>match hget s.h b with
   | some (.arr fr ex ty sz' rows)=>sz'=sz∧∃r,rows[row]? = some r∧dropK c r fun r=>partK (T t) r fun v=>K v [(b,some (.arr fr ex ty sz' rows))] [] s.nx
   | _=>False
  | _=>False
 | .store t x y=>match g with
  | some _=>False
  | none=>szK (T t) fun n=>cellsK n (ev s y) fun new=>match ev s x with
   | .ptr b c=>match hget s.h b with
    | some (.var fr ty cells)=>putK c cells new fun cells'=>K .any [(b,some (.var fr ty cells))] [(b,some (.var fr ty cells'))] s.nx
    | _=>False
   | .eptr b sz row c=>match hget s.h b with
    | some (.arr fr ex ty sz' rows)=>sz'=sz∧∃r,rows[row]? = some r∧putK c r new fun r'=>K .any [(b,some (.arr fr ex ty sz' rows))] [(b,some (.arr fr ex ty sz' (rows.set row r')))] s.nx
    | _=>False
   | _=>False
 | .alloc e=>match g with
  | some _=>False
  | none=>szK (T e) fun n=>constsK (T e).zero fun cs=>match lenIs cs n with
   | true=>forceN s.nx fun nx=>K (.ptr nx 0) [(nx,none)] [(nx,some (.var true e cs))] (nx + 1)
   | _=>False
 | .box e x=>match g with
  | some _=>False
  | none=>szK (T e) fun n=>cellsK n (ev s x) fun cs=>forceN s.nx fun nx=>K (.ptr nx 0) [(nx,none)] [(nx,some (.var true e cs))] (nx + 1)
 | .build t parts=>match(T t).k with
  | .struct fs=>match knownAll T fs with
   | true=>constsK (T t).zero fun cs=>fillK fs T cs s g parts.toList fun cs=>K (.agg cs) [] [] s.nx
   | false=>False
  | _=>False
 | .buildSlice t len parts=>match g with
  | some _=>False
  | none=>match(T t).k with
   | .slice e=>szK (T e) fun n=>constsK (T e).zero fun cs=>match lenIs cs n,Nat.ble (len * n) 1000,Nat.blt 0 n with
    | true,true,true=>forceN s.nx fun nx=>fillRowsK n (rep cs len) s none parts.toList fun rows=>K (.osl nx n 0 len) [(nx,none)] [(nx,some (.arr true true e n rows))] (nx + 1)
    | _,_,_=>False
   | _=>False
 | .makeFunc fn first cap=>evs g s first.toList fun vs=>evs g s cap.toList fun ws=>K (.fn fn vs ws) [] [] s.nx
 | .makeInterface t x=>argK g (ev s x) fun a=>szK (T t) fun _=>match(T t).k with
  | .iface=>False
  | _=>K (.ifc t a) [] [] s.nx
 | .makeSlice t l c=>match g with
  | some _=>False
  | none=>match(T t).k,ev s l,ev s c with
   | .slice e,.int .i64 l,.int .i64 c=>szK (T e) fun n=>constsK (T e).zero fun cs=>match lenIs cs n,Nat.blt 0 n with
    | true,true=>forceN s.nx fun nx=>(0≤l∧l≤c∧(T e).bytes * c≤2 ^ 47∧c≤2 ^ 47)∧K (.osl nx n 0 l.toNat) [(nx,none)] [(nx,some (.arr true true e n (List.replicate c.toNat cs)))] (nx + 1)
    | _,_=>False
   | _,_,_=>False
 | .slice t x lo hi mx=>argK g (ev s x) fun a=>bndK g s lo fun l pl=>match(T t).k,mx,a with
   | .slice e,none,.sl fr sz xs=>szK (T e) fun z=>sz=z∧match hi with
    | none=>gd g (pl∧l≤xs.length)∧K (.sl fr sz (xs.drop l)) [] [] s.nx
    | some hi=>bndK g s (some hi) fun h ph=>gd g (pl∧ph∧l≤h∧h≤xs.length)∧K (.sl fr sz ((xs.take h).drop l)) [] [] s.nx
   | .slice e,none,.osl b sz row n=>szK (T e) fun z=>sz=z∧match hi with
    | none=>gd g (pl∧l≤n)∧K (.osl b sz (row + l) (n - l)) [] [] s.nx
    | some hi=>bndK g s (some hi) fun h ph=>∃q:Cut,match q with
     | .own=>gd g (pl∧ph∧l≤h∧h≤n)∧K (.osl b sz (row + l) (h - l)) [] [] s.nx
     | .lies=>gd g (pl∧ph∧l=0∧h≤n)∧0 < n∧K (.psl b sz row h) [] [] s.nx
     | .past=>match hget s.h b with
      | some (.arr fr ex ty sz' rows)=>sz'=sz∧0 < sz∧0 < n∧gd g (pl∧ph∧l=0∧row + h≤rows.length)∧K (.osl b sz row h) [(b,some (.arr fr ex ty sz' rows))] [] s.nx
      | _=>False
   | .slice e,none,.psl b sz row n=>szK (T e) fun z=>sz=z∧match hi with
    | none=>False
    | some hi=>bndK g s (some hi) fun h ph=>match hget s.h b with
     | some (.arr fr ex ty sz' rows)=>sz'=sz∧0 < sz∧gd g (pl∧ph∧l=0∧row + h≤rows.length)∧K (.psl b sz row h) [(b,some (.arr fr ex ty sz' rows))] [] s.nx
     | _=>False
   | .slice e,none,.snil=>szK (T e) fun z=>match hi with
    | none=>gd g (pl∧l=0)∧K .snil [] [] s.nx
    | some hi=>bndK g s (some hi) fun h ph=>gd g (pl∧ph∧l=0∧h=0)∧K .snil [] [] s.nx
   | .str,none,.str b=>match hi with
    | none=>gd g (pl∧l≤b.size)∧K (.str (b.extract l b.size)) [] [] s.nx
    | some hi=>bndK g s (some hi) fun h ph=>gd g (pl∧ph∧l≤h∧h≤b.size)∧K (.str (b.extract l h)) [] [] s.nx
   | .slice e,some (.tmp mx),.sl fr sz xs=>szK (T e) fun z=>sz=z∧match hi with
    | none=>False
    | some hi=>bndK g s (some hi) fun h ph=>bndK g s (some (.tmp mx)) fun m pm=>gd g (pl∧ph∧pm∧l≤h∧h≤m∧m≤xs.length)∧K (.sl fr sz ((xs.take h).drop l)) [] [] s.nx
   | .slice e,some (.const (.int _ 0)),.sl _ _ _=>szK (T e) fun _=>match hi with
    | some (.const (.int _ 0))=>match l with
     | 0=>gd g pl∧K .snil [] [] s.nx
     | _=>False
    | _=>False
   | .slice e,some (.const (.int _ 0)),.osl _ _ _ _=>szK (T e) fun _=>match hi with
    | some (.const (.int _ 0))=>match l with
     | 0=>gd g pl∧K .snil [] [] s.nx
     | _=>False
    | _=>False
   | .slice e,some (.const (.int _ 0)),.snil=>szK (T e) fun _=>match hi with
    | some (.const (.int _ 0))=>match l with
     | 0=>gd g pl∧K .snil [] [] s.nx
     | _=>False
    | _=>False
   | _,_,_=>False
 | .call c=>match c.callee with
  | .builtin .len=>match c.args.toList,c.argTypes.toList with
   | [x],[t]=>argK g (ev s x) fun a=>match(T t).k,a with
    | .slice _,.sl _ _ xs=>gd g (xs.length≤maxLen)→K (.int .i64 xs.length) [] [] s.nx
    | .slice _,.osl _ _ _ n=>gd g (n≤maxLen)→K (.int .i64 n) [] [] s.nx
    | .slice _,.snil=>K (.int .i64 0) [] [] s.nx
    | .str,.str b=>K (.int .i64 b.size) [] [] s.nx
    | .map _ _,a=>esK s.h a fun es rd=>K (.int .i64 es.length) rd [] s.nx
    | _,_=>False
   | _,_=>False
  | .builtin .delete=>match g,c.args.toList,c.argTypes.toList with
   | none,[m,k],[t,_]=>match(T t).k,ev s m with
    | .map kt _,.mapp b=>match hget s.h b with
     | some (.map es)=>forceV (ev s k) fun k=>KeysV T kt es∧KeyV T kt k∧∃r,MPos es k r∧K (.tup []) [(b,some (.map es))] [(b,some (.map (mdel es r)))] s.nx
     | _=>False
    | _,_=>False
   | _,_,_=>False
  | .builtin .min=>match c.args.toList with
   | [x,y]=>argK g (ev s x) fun a=>argK g (ev s y) fun b=>match a,b with
    | .int k x,.int _ y=>K (.int k (if y < x then y else x)) [] [] s.nx
    | _,_=>False
   | _=>False
  | .builtin .max=>match c.args.toList with
   | [x,y]=>argK g (ev s x) fun a=>argK g (ev s y) fun b=>match a,b with
    | .int k x,.int _ y=>K (.int k (if x < y then y else x)) [] [] s.nx
    | _,_=>False
   | _=>False
  | .builtin .cap=>match c.args.toList,c.argTypes.toList with
   | [x],[t]=>argK g (ev s x) fun a=>match(T t).k,a with
    | .slice _,.snil=>K (.int .i64 0) [] [] s.nx
    | .slice e,.osl b sz row n=>match hget s.h b with
     | some (.arr fr ex ty sz' rows)=>(sz'=sz∧0 < sz∧0 < n∧ex=true)∧K (.int .i64 (rows.length - row:Nat)) [(b,some (.arr fr ex ty sz' rows))] [] s.nx
     | _=>False
    | _,_=>False
   | _,_=>False
  | .builtin .copy=>match g,c.args.toList,c.argTypes.toList with
   | none,[x,y],[t,t']=>match(T t).k,ev s x with
    | .slice e,.osl b sz row n=>match hget s.h b with
     | some (.arr fr ex ty sz' rows)=>rowsK s.h (ev s y) fun sz'' ys rd=>szK (T e) fun z=>(sz=z∧sz'=sz∧sz''=sz)∧row + n≤rows.length ∧
       K (.int .i64 (min ys.length n:Nat)) ((b,some (.arr fr ex ty sz' rows)) :: rd) [(b,some (.arr fr ex ty sz (rows.take row ++ ys.take n ++ rows.drop (row + min ys.length n))))] s.nx
     | _=>False
    | _,_=>False
   | _,_,_=>False
  | .builtin .append=>match g,c.args.toList,c.argTypes.toList with
   | none,[x,y],[t,t']=>match(T t).k,(T t').k,ev s x with
    | .slice e,.slice _,.snil=>forceN s.nx fun nx=>rowsK s.h (ev s y) fun sz ys rd=>szK (T e) fun z=>constsK (T e).zero fun _=>(sz=z∧0 < z)∧(ys.length * (T e).bytes≤140737488355328∧ys.length≤140737488355328) ∧
      K (.osl nx sz 0 ys.length) ((nx,none) :: rd) [(nx,some (.arr true false e sz ys))] (nx + 1)
    | .slice e,.int _,.snil=>match ev s y with
     | .int .i64 m=>forceN s.nx fun nx=>szK (T e) fun z=>constsK (T e).zero fun cs=>match lenIs cs z with
      | true=>(0 < z∧0≤m∧m.toNat * (T e).bytes≤140737488355328∧m.toNat≤140737488355328)∧K (.osl nx z 0 m.toNat) [(nx,none)] [(nx,some (.arr true false e z (List.replicate m.toNat cs)))] (nx + 1)
      | false=>False
     | _=>False
    | .slice e,.int _,.osl b sz 0 n=>match ev s y,hget s.h b with
     | .int .i64 m,some (.arr fr ex ty sz' rows)=>forceN s.nx fun nx=>szK (T e) fun z=>constsK (T e).zero fun cs=>match lenIs cs z with
      | true=>(ty=e∧sz=z∧sz'=sz∧0 < z∧0≤m)∧n≤rows.length∧((n + m.toNat) * (T e).bytes≤140737488355328∧n + m.toNat≤140737488355328)∧∃keep:Bool,match keep with
       | false=>K (.osl nx sz 0 (n + m.toNat)) [(nx,none),(b,some (.arr fr ex ty sz' rows))] [(nx,some (.arr fr false ty sz (rows.take n ++ List.replicate m.toNat cs))),(b,none)] (nx + 1)
       | true=>(ex=true∧rows.length < n + m.toNat)∧K (.osl nx sz 0 (n + m.toNat)) [(nx,none),(b,some (.arr fr ex ty sz' rows))] [(nx,some (.arr true false ty sz (rows.take n ++ List.replicate m.toNat cs)))] (nx + 1)
      | false=>False
     | _,_=>False
    | .slice e,.slice _,.osl b sz 0 n=>match hget s.h b with
     | some (.arr fr ex ty sz' rows)=>forceN s.nx fun nx=>rowsK s.h (ev s y) fun sz'' ys rd=>szK (T e) fun z=>constsK (T e).zero fun _=>(ty=e∧sz=z∧sz'=sz∧sz''=sz∧0 < z)∧n≤rows.length∧((n + ys.length) * (T e).bytes≤140737488355328∧n + ys.length≤140737488355328) ∧
       K (.osl nx sz 0 (n + ys.length)) ((nx,none) :: (b,some (.arr fr ex ty sz' rows)) :: rd) [(nx,some (.arr fr false ty sz (rows.take n ++ ys))),(b,none)] (nx + 1)
     | _=>False
    | _,_,_=>False
   | _,_,_=>False
  | _=>False
 | _=>False
section
section inv
variable {ι : Nat → Option Nat} {z : Nat → Option Nat} {im : Bool → Addr → Value → Prop} {u : Value}
theorem VR.int_iff {k n}:VR ι z im (.int k n) u↔u=.int k n:=⟨fun h=>by cases h;rfl,fun h=>h▸.int k n⟩
theorem VR.bool_iff {b}:VR ι z im (.bool b) u↔u=.bool b:=⟨fun h=>by cases h;rfl,fun h=>h▸.bool b⟩
theorem VR.str_iff {b}:VR ι z im (.str b) u↔u=.string b:=⟨fun h=>by cases h;rfl,fun h=>h▸.str b⟩
theorem VR.one' {v:V} (h1:v.one=true) (h:VR ι z im v u):u.oneCell'=true:=by
 cases h<;>first|rfl|(simp[V.one]at h1)
theorem VR.one_cells {v:V} (h1:v.one=true) (h:VR ι z im v u):u.cells=#[u]:=by
 cases h<;>first|rfl|(simp[V.one]at h1)
end inv
theorem const_vr (ι:Nat→Option Nat) (z:Nat→Option Nat) (im:Bool→Addr→Value→Prop) (v:Value):VR ι z im (V.const v) v:=by
 unfold V.const
 split<;>first|exact .int _ _|exact .bool _|exact .str _|exact .nili|exact .nilf|exact .snil _|exact .nilp|exact .nilm|exact .any _
def otmps (op:Op):List Nat:=op.operands.toList.filterMap fun|.tmp t=>some t|_=>none
theorem VR.unpin {ι z:Nat→Option Nat} {im:Bool→Addr→Value→Prop} {v:V} {u:Value} (h:VR ι z im v u):VR ι z im v.unpin u:=by
 cases h with
 | pin _ _ h=>exact h
 | any=>exact .any _
 | int=>exact .int _ _
 | bool=>exact .bool _
 | str=>exact .str _
 | agg _ _ a b=>exact .agg _ _ a b
 | tup _ _ a b=>exact .tup _ _ a b
 | snil=>exact .snil _
 | sl _ _ _ _ _ us a b c d e f=>exact .sl _ _ _ _ _ us a b c d e f
 | iptr _ _ _ us a b c=>exact .iptr _ _ _ us a b c
 | nilp=>exact .nilp
 | ptr _ _ _ a=>exact .ptr _ _ _ a
 | eptr _ _ _ _ _ a=>exact .eptr _ _ _ _ _ a
 | osl _ _ _ _ _ _ _ a b c d e=>exact .osl _ _ _ _ _ _ _ a b c d e
 | oslz=>exact .oslz _ _ _ _
 | nilf=>exact .nilf
 | fn _ _ _ _ _ a b c d=>exact .fn _ _ _ _ _ a b c d
 | nili=>exact .nili
 | ifc _ _ _ a=>exact .ifc _ _ _ a
 | opt _ _ _ a b=>exact .opt _ _ _ a b
 | yld _ _ a=>exact .yld _ _ a
 | ubool=>exact .ubool _
 | psl _ _ _ _ _ _ _ a b c d e=>exact .psl _ _ _ _ _ _ _ a b c d e
 | mapp _ _ h=>exact .mapp _ _ h
 | nilm=>exact .nilm
 | imap _ _ _ _ _ a b c d e=>exact .imap _ _ _ _ _ a b c d e
theorem ev_vr {G:Gh} {N:Nat} {s s':St} {a:Act} {w:World} (h:Sim G N s' a w) (x:Operand) (hx:∀i,x=.tmp i→s'.get i=s.get i):vr G w (ev s x) (a.eval x):=by
 cases x with
 | tmp i=>have:=h.tmp i;rw[hx i rfl]at this;exact VR.unpin this
 | const v=>exact const_vr _ _ _ v
 | global g=>exact .any _
 | func f=>exact .fn (.func f) [] [] [] [] rfl rfl (by simp) (by simp)
theorem argK_out {g:Option Bool} {v:V} {K:V→Prop} (h:argK g v K):∃v',K v'∧((g=none∨g=some true)→∀(G:Gh) (w:World) u,vr G w v u→vr G w v' u):=by
 unfold argK at h
 split at h
 ·exact⟨v,h,fun _ _ _ _ h=>h⟩
 ·rename_i gb
  split at h
  ·rename_i c v'
   refine⟨v',h.2,fun hg G w u hu=>?_⟩
   cases hu with
   | opt _ _ _ hc _=>exact hc (h.1 (by simpa using hg))
  ·exact⟨_,h,fun _ _ _ _ h=>h⟩
def EvoA (G:Gh) (w:World) (G':Gh) (w':World):Prop:=∀base,Evo base G w G' w'
theorem EvoA.refl (G:Gh) (w:World):EvoA G w G w:=fun b=>Evo.refl b G w
def Yields (P:Program) (a:Act) (o:Oper) (w:World) (u:Value) (w':World):Prop:=
 (execOp a.eval o).run P w=.ok (.value u) w'∨((execOp a.eval o).run P w=.ok .skip w'∧u=undef)
def OpOk (P:Program) (o:Oper) (s:St) (val:V) (rd upd:Heap) (nx':Nat):Prop:=
 s.nx≤nx'∧∀(G:Gh) (N:Nat) (a:Act) (w:World) (s':St),Sim G N s' a w→(∀i,i∈otmps o.op→s'.get i=s.get i) →
  (∀b ob,(b,ob)∈rd→hget s'.h b=ob)→(∀b,s.nx≤b→b < nx'→G.ι b=none) →
  ∃u w' G',Yields P a o w u w'∧vr G' w' val u∧HR G' (upd ++ s'.h) (max s'.nx nx') w'∧(∀b,(b < s.nx∨nx'≤b)→G'.ι b=G.ι b)∧EvoA G w G' w'
theorem OpOk.pure {P:Program} {o:Oper} {s:St} {val:V} {rd:Heap}
  (h:∀(G:Gh) (N:Nat) (a:Act) (w:World) (s':St),Sim G N s' a w→(∀i,i∈otmps o.op→s'.get i=s.get i)→(∀b ob,(b,ob)∈rd→hget s'.h b=ob) →
   ∃u,(execOp a.eval o).run P w=.ok (.value u) w∧vr G w val u):OpOk P o s val rd [] s.nx:=
 ⟨Nat.le_refl _,fun G N a w s' hs ha hr _=>by
  obtain⟨u,hu,hv⟩:=h G N a w s' hs ha hr
  refine⟨u,w,G,.inl hu,hv,?_,fun _ _=>rfl,EvoA.refl G w⟩
  have hh:=hs.hr
  exact⟨hh.amb_lt,hh.B_le,fun b hb=>hh.dom b (by omega),hh.own,hh.inj,hh.apart,hh.lt,fun b blk hb=>by have:=hh.hdom b blk hb;omega,hh.gl⟩⟩
def RdOk (s:St) (rd:Heap):Prop:=∀b ob,(b,ob)∈rd→hget s.h b=ob∨(ob=none∧s.nx≤b)
theorem RdOk.nil (s:St):RdOk s []:=fun b ob h=>by simp at h
theorem RdOk.cons {s:St} {b:Nat} {ob:Option Blk} {rd:Heap} (h:hget s.h b=ob∨(ob=none∧s.nx≤b)) (hr:RdOk s rd):RdOk s ((b,ob) :: rd):=fun b' ob' hm=>by
 rcases List.mem_cons.1 hm with e|hm
 ·cases e;exact h
 ·exact hr b' ob' hm
theorem RdOk.new {s:St} {rd:Heap} (hr:RdOk s rd):RdOk s ((s.nx,none) :: rd):=.cons (.inr ⟨rfl,Nat.le_refl _⟩) hr
def ExOk (P:Program) (s:St) (g:Option Bool) (o:Oper) (K:OK):Prop:=
 ∃val rd upd nx',K val rd upd nx'∧RdOk s rd∧((g=none∨g=some true)→OpOk P o s val rd upd nx')∧(g ≠ none→upd=[]∧nx'=s.nx)
theorem ExOk.of_pure {P:Program} {s:St} {g:Option Bool} {o:Oper} {K:OK} {val:V} {rd:Heap} (hK:K val rd [] s.nx)
  (h:(g=none∨g=some true)→∀(G:Gh) (N:Nat) (a:Act) (w:World) (s':St),Sim G N s' a w→(∀i,i∈otmps o.op→s'.get i=s.get i)→(∀b ob,(b,ob)∈rd→hget s'.h b=ob) →
   ∃u,(execOp a.eval o).run P w=.ok (.value u) w∧vr G w val u) (hrd:RdOk s rd:=by exact RdOk.nil _):ExOk P s g o K:=
 ⟨val,rd,[],s.nx,hK,hrd,fun hg=>OpOk.pure (h hg),fun _=>⟨rfl,rfl⟩⟩
section tables
variable {P : Program} {T : Tab}
theorem TabOk.at (hT:TabOk P T) {t:Nat} (hk:(T t).k ≠ .other) :
  ∃i z d,P.info? t=some i∧i.size=(T t).size∧i.bytes=(T t).bytes∧i.zero=some z∧z.cells.toList=(T t).zero∧P.underlying t=some d∧DescOk (T t).k d:=by
 rcases hT.1 t with⟨i,z,h1,h2,h3,h4,h5,d,h6,h7,_⟩|h
 ·exact⟨i,z,d,h1,h2,h3,h4,h5,h6,h7⟩
 ·exact absurd h hk
theorem TabOk.zero_len (hT:TabOk P T) {t:Nat} (hk:(T t).k ≠ .other):(T t).zero.length=(T t).size:=by
 rcases hT.1 t with⟨i,z,h1,h2,h3,h4,h5,d,h6,h7,h8,_⟩|h
 ·exact h8
 ·exact absurd h hk
theorem TabOk.sizeOf (hT:TabOk P T) {t:Nat} (hk:(T t).k ≠ .other) (w:World):(Go.sizeOf t).run P w=.ok (T t).size w:=by
 obtain⟨i,z,d,h1,h2,_⟩:=hT.at hk
 simp[Go.sizeOf,typeInfo,h1,h2]
theorem TabOk.isAgg (hT:TabOk P T) {t:Nat} (hk:(T t).k ≠ .other) (w:World):(Go.isAgg t).run P w=.ok (isAgg (T t).k) w:=by
 obtain⟨i,z,d,h1,h2,_,_,_,h6,h7⟩:=hT.at hk
 simp only[Go.isAgg,Sem.run_bind,run_underlying h6,Result.andThen_ok]
 generalize (T t).k=k at hk h7
 cases k with
 | other=>exact absurd rfl hk
 | int=>simp only[DescOk]at h7;subst h7;rfl
 | bool=>simp only[DescOk]at h7;subst h7;rfl
 | str=>simp only[DescOk]at h7;subst h7;rfl
 | slice=>simp only[DescOk]at h7;subst h7;rfl
 | ptr=>simp only[DescOk]at h7;subst h7;rfl
 | array=>simp only[DescOk]at h7;subst h7;rfl
 | map=>simp only[DescOk]at h7;subst h7;rfl
 | struct=>obtain⟨_,rfl,_⟩:=h7;rfl
 | func=>obtain⟨_,_,_,rfl⟩:=h7;rfl
 | iface=>obtain⟨_,rfl⟩:=h7;rfl
 | tuple=>obtain⟨_,rfl⟩:=h7;rfl
end tables
theorem takeK_out:∀{n:Nat} {xs:List V} {K:List V→Prop},takeK n xs K→n≤xs.length∧K (xs.take n)
 | 0,xs,K,h=>⟨Nat.zero_le _,by simpa[takeK]using h⟩
 | n + 1,x :: xs,K,h=>by
  obtain⟨h1,h2⟩:=takeK_out (n:=n) (xs:=xs) h
  exact⟨by simp;omega,by simpa using h2⟩
 | n + 1,[],K,h=>h.elim
theorem dropK_out:∀{n:Nat} {xs:List V} {K:List V→Prop},dropK n xs K→n≤xs.length∧K (xs.drop n)
 | 0,xs,K,h=>⟨Nat.zero_le _,by simpa[dropK]using h⟩
 | n + 1,x :: xs,K,h=>by
  obtain⟨h1,h2⟩:=dropK_out (n:=n) (xs:=xs) h
  exact⟨by simp;omega,by simpa using h2⟩
 | n + 1,[],K,h=>h.elim
theorem putK_out:∀{n:Nat} {xs ys:List V} {K:List V→Prop},putK n xs ys K→n + ys.length≤xs.length∧K (xs.take n ++ ys ++ xs.drop (n + ys.length))
 | 0,xs,[],K,h=>⟨by simp,by cases xs<;>simpa[putK]using h⟩
 | 0,x :: xs,y :: ys,K,h=>by
  obtain⟨h1,h2⟩:=putK_out (n:=0) (xs:=xs) (ys:=ys) h
  refine⟨by simp at h1 ⊢;omega,?_⟩
  simpa using h2
 | n + 1,x :: xs,ys,K,h=>by
  obtain⟨h1,h2⟩:=putK_out (n:=n) (xs:=xs) (ys:=ys) h
  refine⟨by simp at h1 ⊢;omega,?_⟩
  simp only[List.take_succ_cons,List.cons_append,show n + 1 + ys.length=(n + ys.length)+ 1 by omega,List.drop_succ_cons]
  exact h2
 | 0,[],_ :: _,K,h=>h.elim
 | n + 1,[],ys,K,h=>by cases ys<;>exact h.elim
theorem lenIs_eq:∀{xs:List V} {n:Nat},lenIs xs n=true→xs.length=n
 | [],0,_=>rfl
 | _ :: r,n + 1,h=>by simp[lenIs_eq (xs:=r) (n:=n) h]
 | [],_ + 1,h=>by simp[lenIs]at h
 | _ :: _,0,h=>by simp[lenIs]at h
theorem allOne_mem:∀{xs:List V},allOne xs=true→∀v∈xs,v.one=true
 | [],_,v,hv=>by simp at hv
 | x :: r,h,v,hv=>by
  unfold allOne at h
  split at h
  ·rename_i hx
   rcases List.mem_cons.1 hv with rfl|hv
   ·exact hx
   ·exact allOne_mem h v hv
  ·cases h
def vrs (G:Gh) (w:World) (vs:List V) (us:List Value):Prop:=vs.length=us.length∧∀(j:Nat) (v:V) (u:Value),vs[j]? = some v→us[j]? = some u→vr G w v u
theorem cellsK_out {n:Nat} {v:V} {K:List V→Prop} (h:cellsK n v K):∃vs,K vs∧vs.length=n∧(∀x∈vs,x.one=true) ∧
  ∀(G:Gh) (w:World) u,vr G w v u→vrs G w vs u.cells.toList:=by
 unfold cellsK at h
 split at h
 ·rename_i cs
  split at h
  ·rename_i hl
   split at h
   ·rename_i ho
    refine⟨cs,h,lenIs_eq hl,allOne_mem ho,fun G w u hu=>?_⟩
    cases hu with
    | agg _ us hl' h'=>exact⟨by simpa[Value.cells]using hl',by simpa[Value.cells]using h'⟩
   ·exact h.elim
  ·exact h.elim
 ·split at h
  ·rename_i ho
   split at h
   ·rename_i hn
    rw[forceV_eq]at h
    refine⟨[v],h,by simpa using(Nat.eq_of_beq_eq_true hn).symm,by simpa using ho,fun G w u hu=>?_⟩
    rw[VR.one_cells ho hu]
    refine⟨rfl,fun j v' u' h1 h2=>?_⟩
    cases j with
    | zero=>simp at h1 h2;subst h1;subst h2;exact hu
    | succ j=>simp at h1
   ·exact h.elim
  ·exact h.elim
end
section
variable {P : Program} {T : Tab} {s : St} {g : Option Bool} {o : Oper} {K : OK}
theorem szK_out {ti:TI} {K:Nat→Prop} (h:szK ti K):K ti.size∧ti.k ≠ .other:=by
 unfold szK at h
 split at h
 ·rename_i hk
  rw[forceN_eq]at h
  exact⟨h,fun e=>by rw[e]at hk;simp[known]at hk⟩
 ·exact h.elim
theorem otm (o:Oper) {x:Operand} (hx:x∈o.op.operands) {s':St} (ha:∀i,i∈otmps o.op→s'.get i=s.get i):∀i,x=.tmp i→s'.get i=s.get i:=by
 rintro i rfl
 refine ha i ?_
 unfold otmps
 rw[List.mem_filterMap]
 exact⟨.tmp i,by simpa using hx,rfl⟩
theorem ex_move {x:Operand} (ho:o.op=.move x∨o.op=.assign x) (h:argK g (ev s x) fun v=>K v [] [] s.nx):ExOk P s g o K:=by
 obtain⟨v,hK,hv⟩:=argK_out h
 refine .of_pure (rd:=[]) hK fun hg G N a w s' hs ha _=>⟨a.eval x,?_,hv hg G w _ (ev_vr hs x (otm o (by rcases ho with ho|ho<;>simp[ho,Op.operands]) ha))⟩
 rcases ho with ho|ho<;>simp[execOp,ho]
theorem pickK_out {c:Bool} {a b:V} {K:V→Prop} (h:pickK c a b K):∃v,K v∧∀(G:Gh) (w:World) ua ub,vr G w a ua→vr G w b ub→vr G w v (if c then ua else ub):=by
 cases c with
 | true=>exact⟨a,h,fun G w ua ub ha _=>ha⟩
 | false=>exact⟨b,h,fun G w ua ub _ hb=>hb⟩
theorem ex_pick {c x y:Operand} (ho:o.op=.pick c x y) (h:exec T s g o K):ExOk P s g o K:=by
 simp only[exec,ho]at h
 obtain⟨v,hK,hv⟩:=argK_out h
 split at hK
 ·rename_i c' 
  obtain⟨val,hK,hp⟩:=pickK_out hK
  refine .of_pure (rd:=[]) hK fun hg G N a w s' hs ha _=>⟨if c' then a.eval x else a.eval y,?_,hp G w _ _ (ev_vr hs x (otm o (by simp[ho,Op.operands]) ha)) (ev_vr hs y (otm o (by simp[ho,Op.operands]) ha))⟩
  have hc:=VR.bool_iff.1 (hv hg G w _ (ev_vr hs c (otm o (by simp[ho,Op.operands]) ha)))
  simp[execOp,ho,hc,asBool]
 ·exact hK.elim
theorem kEq_eq {a b:IntKind} (h:kEq a b=true):a=b:=by
 unfold kEq at h
 split at h<;>first|rfl|cases h
theorem run_eqIn_fn' {P:Program} {w:World} {t:TypeId} {d1 d2 d3} (h6:P.underlying t=some (.func d1 d2 d3)) {f:Fn} {us ws:Array Value} {d:Nat}:(Op.equalIn (d + 1) t (.func f us ws) .nilFunc).run P w=.ok false w:=by
 simp[Op.equalIn,run_underlying h6]
theorem run_eqIn_fn {P:Program} {w:World} {t:TypeId} {d1 d2 d3} (h6:P.underlying t=some (.func d1 d2 d3)) {f:Fn} {us ws:Array Value}:(Op.equalIn Op.maxDepth t (.func f us ws) .nilFunc).run P w=.ok false w:=
 run_eqIn_fn' (d:=9999) h6
theorem binK_out (hT:TabOk P T) {op:BinOp} {t:TypeId} {x y:Operand} {a b:V} {K:V→Prop} (h:binK (T t).k op a b K) :
  ∃v,K v∧∀(G:Gh) (w:World) ua ub,vr G w a ua→vr G w b ub→∃u,(do eqGuard op t x y ua ub;binOp op t ua ub:Sem Value).run P w=.ok u w∧vr G w v u:=by
 unfold binK at h
 split at h
 ·rename_i k p k' q
  have key:∀v,K v→(∀w:World,∃u,(binOp op t (.int k p) (.int k' q)).run P w=.ok u w∧∀G,vr G w v u) →
    ∃v,K v∧∀(G:Gh) (w:World) ua ub,vr G w (.int k p) ua→vr G w (.int k' q) ub→∃u,(do eqGuard op t x y ua ub;binOp op t ua ub:Sem Value).run P w=.ok u w∧vr G w v u:=by
   intro v hK hv
   refine⟨v,hK,fun G w ua ub ha hb=>?_⟩
   rw[VR.int_iff.1 ha,VR.int_iff.1 hb]
   obtain⟨u,hu,hv⟩:=hv w
   refine⟨u,?_,hv G⟩
   have he:(eqGuard op t x y (.int k p) (.int k' q)).run P w=.ok () w:=by
    unfold eqGuard
    cases op<;>simp
   simp only[Sem.run_bind,he,Result.andThen_ok,hu]
  split at h
  ·exact key _ h.2 fun w=>⟨_,by simp[binOp,Op.shift,show ¬ q < 0 by omega],fun _=>.int _ _⟩
  ·exact key _ h.2 fun w=>⟨_,by simp[binOp,Op.shift,show ¬ q < 0 by omega],fun _=>.int _ _⟩
  ·split at h
   ·exact h.elim
   ·rename_i hk
    have hk:=kEq_eq hk
    subst hk
    split at h<;>first
     | exact h.elim
     | exact key _ h fun w=>⟨_,by simp[binOp,Op.intArith,Op.intCmp];rfl,fun _=>.int _ _⟩
     | exact key _ h fun w=>⟨_,by simp[binOp,Op.intArith,Op.intCmp],fun _=>.int _ _⟩
     | exact key _ h fun w=>⟨_,by simp[binOp,Op.intBits,bits];rfl,fun _=>.int _ _⟩
     | exact key _ h fun w=>⟨_,by simp[binOp,Op.intCmp],fun _=>.bool _⟩
     | exact key _ h fun w=>⟨_,by simp[binOp,Op.intCmp];rfl,fun _=>.bool _⟩
     | exact key _ h.2 fun w=>⟨_,by simp[binOp,Op.intDiv,h.1],fun _=>.int _ _⟩
 ·rename_i p q
  split at h
  case h_2=>exact h.elim
  rename_i hkb
  have htk:(T t).k ≠ .other:=by rw[hkb];simp
  have key:∀v:Bool,K (.bool v)→(op=.eql∧v=(p == q)∨op=.neq∧v=(p != q)) →
    ∃v,K v∧∀(G:Gh) (w:World) ua ub,vr G w (.bool p) ua→vr G w (.bool q) ub→∃u,(do eqGuard op t x y ua ub;binOp op t ua ub:Sem Value).run P w=.ok u w∧vr G w v u:=by
   intro v hK hv
   refine⟨.bool v,hK,fun G w ua ub ha hb=>⟨.bool v,?_,.bool v⟩⟩
   rw[VR.bool_iff.1 ha,VR.bool_iff.1 hb]
   have hd:=hT.at htk
   obtain⟨i,z,d,_,_,_,_,_,h6,h7⟩:=hd
   rw[hkb,DescOk]at h7
   subst h7
   have he:∀op,(eqGuard op t x y (.bool p) (.bool q)).run P w=.ok () w:=by
    intro op
    unfold eqGuard
    cases op<;>simp
   rcases hv with⟨rfl,rfl⟩|⟨rfl,rfl⟩
   ·simp only[Sem.run_bind,he,Result.andThen_ok,run_eql_bool w t p q h6]
   ·simp only[Sem.run_bind,he,Result.andThen_ok,run_neq_bool w t p q h6,bne]
  split at h
  ·exact key _ h (.inl ⟨rfl,rfl⟩)
  ·exact key _ h (.inr ⟨rfl,rfl⟩)
  ·exact h.elim
 ·rename_i p q
  split at h
  ·refine⟨_,h.2,fun G w ua ub ha hb=>⟨_,?_,.str _⟩⟩
   rw[VR.str_iff.1 ha,VR.str_iff.1 hb]
   have e:p ++ q=catS p q:=by
    unfold catS
    apply ByteArray.ext
    rw[ByteArray.data_append]
    apply Array.ext'
    simp
   simp[eqGuard,binOp,Op.stringOp,e]
   have:=h.1
   omega
  ·refine⟨_,h,fun G w ua ub ha hb=>⟨_,?_,.bool _⟩⟩
   rw[VR.str_iff.1 ha,VR.str_iff.1 hb]
   simp[eqGuard,binOp,Op.stringOp,ByteArray.toList_eq]
  ·refine⟨_,h,fun G w ua ub ha hb=>⟨_,?_,.bool _⟩⟩
   rw[VR.str_iff.1 ha,VR.str_iff.1 hb]
   simp[eqGuard,binOp,Op.stringOp,ByteArray.toList_eq,bne]
  ·exact h.elim
 ·rename_i f fs cs
  split at h
  case h_2=>exact h.elim
  rename_i hkf
  obtain⟨i,z,d,_,_,_,_,_,h6,h7⟩:=hT.at (t:=t) (by rw[hkf];simp)
  rw[hkf,DescOk]at h7
  obtain⟨d1,d2,d3,rfl⟩:=h7
  have run:∀(w:World) (us ws:Array Value),(Op.equalIn Op.maxDepth t (.func f us ws) .nilFunc).run P w=.ok false w:=fun w us ws=>run_eqIn_fn h6
  split at h
  ·refine⟨_,h,fun G w ua ub ha hb=>⟨.bool false,?_,.bool _⟩⟩
   cases ha with
   | fn _ _ _ us ws _ _ _ _=>
    cases hb
    simp only[eqGuard,binOp,Op.equal,Sem.run_bind,run,Result.andThen_ok,Bool.not_true,Bool.false_eq_true,if_false,Sem.run_pure]
  ·refine⟨_,h,fun G w ua ub ha hb=>⟨.bool true,?_,.bool _⟩⟩
   cases ha with
   | fn _ _ _ us ws _ _ _ _=>
    cases hb
    simp only[eqGuard,binOp,Op.equal,Sem.run_bind,run,Result.andThen_ok,Bool.not_true,Bool.false_eq_true,if_false,Sem.run_pure]
    try rfl
  ·exact h.elim
 ·exact h.elim
def CellsR (G:Gh) (w:World) (cs:List V) (us:List Value):Prop:=
 cs.length=us.length∧∀(j:Nat) (v:V) (u:Value),cs[j]? = some v→us[j]? = some u→vr G w v u
theorem CellsR.one {G:Gh} {w:World} {v:V} {us:List Value} (h:CellsR G w [v] us):∃u,us=[u]∧vr G w v u:=by
 match us,h with
 | [u],h=>exact⟨u,rfl,h.2 0 v u rfl rfl⟩
 | [],h=>simp[CellsR]at h
 | _ :: _ :: _,h=>simp[CellsR]at h
theorem CellsR.part {G:Gh} {w:World} {cs:List V} {us:List Value} (h:CellsR G w cs us) (a n:Nat):CellsR G w ((cs.drop a).take n) ((us.drop a).take n):=by
 refine⟨by simp[h.1],fun j v u hv hu=>?_⟩
 rw[List.getElem?_take]at hv hu
 split at hv
 ·rw[List.getElem?_drop]at hv hu
  exact h.2 _ v u hv (by split at hu<;>first|exact hu|omega)
 ·cases hv
theorem cellsOf_eq (hT:TabOk P T) {t:Nat} (hk:(T t).k ≠ .other):P.cellsOf t=(T t).size:=by
 obtain⟨i,z,d,h1,h2,_⟩:=hT.at hk
 simp[Program.cellsOf,h1,h2]
theorem litK_out (hT:TabOk P T):∀(d:Nat) (t:Nat) (cs:List V) (K:List Lit→Prop),litK T d t cs K →
  ∃la,K la∧(T t).k ≠ .other∧∀(G:Gh) (w:World) (us:List Value),CellsR G w cs us→P.keyTypeAt d t=true→P.keyLits d t us=some la
 | 0,_,_,_,h=>h.elim
 | d + 1,t,cs,K,h=>by
  have IH:=litK_out hT d
  have hf:∀(fields:List Field) (K:List Lit→Prop),fieldsK T (litK T d) cs (fields.map fun f=>(f.offset,f.type)) K →
    ∃lls:List (List Lit),K lls.flatten∧∀(G:Gh) (w:World) (us:List Value),CellsR G w cs us→(∀f,f∈fields→P.keyTypeAt d f.type=true) →
     fields.mapM (fun f=>P.keyLits d f.type ((us.drop f.offset).take (P.cellsOf f.type)))=some lls:=by
   intro fields
   induction fields with
   | nil=>intro K h;exact⟨[],h,fun _ _ _ _ _=>rfl⟩
   | cons f r ih=>
    intro K h
    simp only[List.map_cons,fieldsK]at h
    obtain⟨_,h⟩:=dropK_out h
    obtain⟨_,h⟩:=takeK_out h
    obtain⟨l,h,hk,hl⟩:=IH _ _ _ h
    obtain⟨lls,hK,hm⟩:=ih _ h
    refine⟨l :: lls,by simpa using hK,fun G w us hr hf=>?_⟩
    have h1:=hl G w _ (hr.part f.offset (T f.type).size) (hf f (by simp))
    have h2:=hm G w us hr fun f' hf'=>hf f' (by simp[hf'])
    rw[List.mapM_cons,cellsOf_eq hT hk,h1]
    simp[h2]
  unfold litK at h
  split at h
  ·rename_i hk
   refine⟨_,h,by rw[hk];simp,fun G w us hr hkt=>?_⟩
   obtain⟨i,z,dd,_,_,_,_,_,h6,h7⟩:=hT.at (t:=t) (by rw[hk];simp)
   rw[hk,DescOk]at h7
   subst h7
   obtain⟨u,rfl,hu⟩:=hr.one
   rw[VR.bool_iff.1 hu]
   simp[Program.keyLits,h6]
  ·rename_i q q' n hk
   split at h
   ·rename_i hq
    have hq:=kEq_eq hq
    subst hq
    refine⟨_,h.2,by rw[hk];simp,fun G w us hr hkt=>?_⟩
    obtain⟨i,z,dd,_,_,_,_,_,h6,h7⟩:=hT.at (t:=t) (by rw[hk];simp)
    rw[hk,DescOk]at h7
    subst h7
    obtain⟨u,rfl,hu⟩:=hr.one
    rw[VR.int_iff.1 hu]
    simp[Program.keyLits,h6,h.1]
   ·exact h.elim
  ·rename_i s hk
   refine⟨_,h.2,by rw[hk];simp,fun G w us hr hkt=>?_⟩
   obtain⟨i,z,dd,_,_,_,_,_,h6,h7⟩:=hT.at (t:=t) (by rw[hk];simp)
   rw[hk,DescOk]at h7
   subst h7
   obtain⟨u,rfl,hu⟩:=hr.one
   rw[VR.str_iff.1 hu]
   simp[Program.keyLits,h6,h.1]
  ·rename_i fs hk
   obtain⟨i,z,dd,_,_,_,_,_,h6,h7⟩:=hT.at (t:=t) (by rw[hk];simp)
   have hko:(T t).k ≠ .other:=by rw[hk];simp
   rw[hk,DescOk]at h7
   obtain⟨fields,rfl,hfs⟩:=h7
   split at h
   ·rename_i hl
    have hl:=lenIs_eq hl
    rw[← hfs]at h
    obtain⟨lls,hK,hm⟩:=hf _ _ h
    refine⟨_,hK,hko,fun G w us hr hkt=>?_⟩
    simp only[Program.keyTypeAt,h6,Bool.and_eq_true]at hkt
    have hall:=hkt.1.1
    rw[← Array.all_toList,List.all_eq_true]at hall
    have h1:=hm G w us hr fun f hf=>by
     have:=hall f hf
     simp only[Bool.and_eq_true]at this
     exact this.2
    simp only[Program.keyLits,h6]
    rw[if_pos ⟨by rw[← hr.1,hl,cellsOf_eq hT hko],by
     rw[← Array.all_toList,List.all_eq_true]
     intro f hf
     have:=hall f hf
     simp only[Bool.and_eq_true]at this
     exact this.1⟩,h1]
    rfl
   ·exact h.elim
  ·exact h.elim
theorem aggK_out (hT:TabOk P T) {op:BinOp} {t:TypeId} {x y:Operand} {cs ds:List V} {K:V→Prop} (h:aggK T op t cs ds K) :
  ∃v,K v∧∀(G:Gh) (w:World) ua ub,vr G w (.agg cs) ua→vr G w (.agg ds) ub→∃u,(do eqGuard op t x y ua ub;binOp op t ua ub:Sem Value).run P w=.ok u w∧vr G w v u:=by
 unfold aggK at h
 split at h
 case h_2=>exact h.elim
 rename_i fs hkey hk
 obtain⟨la,h,hko,ha⟩:=litK_out hT _ _ _ _ h
 obtain⟨lb,h,_,hb⟩:=litK_out hT _ _ _ _ h
 obtain⟨h1,h2⟩:=hT.2.1 t hkey
 obtain⟨i,z,dd,_,_,_,_,_,h6,h7⟩:=hT.at (t:=t) hko
 rw[hk,DescOk]at h7
 obtain⟨fields,rfl,hfs⟩:=h7
 have main:∀(r:Bool),(r=true↔la=lb)→∀(G:Gh) (w:World) (us ws:List Value),CellsR G w cs us→CellsR G w ds ws →
   (Op.equalIn 10000 t (.agg us.toArray) (.agg ws.toArray)).run P w=.ok r w:=by
  intro r hr G w us ws hu hw
  have hla:=ha G w us hu h1
  have hlb:=hb G w ws hw h1
  have hlen:∀(cs:List Value) (l:List Lit),P.keyLits 60 t cs=some l→cs.length=P.cellsOf t:=by
   intro cs l h
   unfold Program.keyLits at h
   rw[h6]at h
   simp only at h
   split at h
   ·rename_i hh
    exact hh.1
   ·cases h
  have fm:∀(cs:List Value) (l:List Lit),P.keyLits 60 t cs=some l→(Value.agg cs.toArray).formed P t=true:=by
   intro cs l h
   simp[Value.formed,h6,hlen cs l h]
  obtain⟨r',hr',hiff⟩:=run_equalIn_deep 9940 60 t h1 w 60 60 (.agg us.toArray) (.agg ws.toArray) la lb (fm us la hla) (fm ws lb hlb) (by simpa[Value.cells]using hla) (by simpa[Value.cells]using hlb)
  have:r'=r:=by
   cases r<;>cases r'<;>simp_all
  rw[← this]
  exact hr'
 split at h
 ·obtain⟨r,hr,hK⟩:=h
  refine⟨_,hK,fun G w ua ub hua hub=>⟨.bool r,?_,.bool _⟩⟩
  cases hua with
  | agg _ us hl hv=>
   cases hub with
   | agg _ ws hl' hv'=>
    simp only[Sem.run_bind,run_eqGuard_agg w _ t x y _ _ h2,Result.andThen_ok,run_eql_struct,main r hr G w us ws ⟨hl,hv⟩ ⟨hl',hv'⟩]
 ·obtain⟨r,hr,hK⟩:=h
  refine⟨_,hK,fun G w ua ub hua hub=>⟨.bool (!r),?_,.bool _⟩⟩
  cases hua with
  | agg _ us hl hv=>
   cases hub with
   | agg _ ws hl' hv'=>
    simp only[Sem.run_bind,run_eqGuard_agg w _ t x y _ _ h2,Result.andThen_ok,run_neq_struct,main r hr G w us ws ⟨hl,hv⟩ ⟨hl',hv'⟩]
 ·exact h.elim
theorem binT_out (hT:TabOk P T) {op:BinOp} {t:TypeId} {x y:Operand} {a b:V} {K:V→Prop} (h:binT T t op a b K) :
  ∃v,K v∧∀(G:Gh) (w:World) ua ub,vr G w a ua→vr G w b ub→∃u,(do eqGuard op t x y ua ub;binOp op t ua ub:Sem Value).run P w=.ok u w∧vr G w v u:=by
 unfold binT at h
 split at h
 ·split at h
  ·exact aggK_out hT h
  ·exact h.elim
 ·exact binK_out hT h
theorem run_eqIn_nil' {P:Program} {w:World} {t e:TypeId} (h6:P.underlying t=some (.slice e)) {A:Option Addr} {n c n0 c0 d:Nat}:(Op.equalIn (d + 1) t (.slice A n c) (.slice none n0 c0)).run P w=.ok A.isNone w:=by
 cases A<;>simp[Op.equalIn,run_underlying h6]
theorem run_eqIn_nil {P:Program} {w:World} {t e:TypeId} (h6:P.underlying t=some (.slice e)) {A:Option Addr} {n c n0 c0:Nat}:(Op.equalIn Op.maxDepth t (.slice A n c) (.slice none n0 c0)).run P w=.ok A.isNone w:=
 run_eqIn_nil' (d:=9999) h6
theorem ex_bin (hT:TabOk P T) {op:BinOp} {t t':TypeId} {x y:Operand} (ho:o.op=.binOp op t x y t') (h:exec T s g o K):ExOk P s g o K:=by
 simp only[exec,ho]at h
 split at h
 ·rename_i hy
  split at h
  ·rename_i e hk
   obtain⟨v,h',hv⟩:=argK_out h;clear h;have h:=h';clear h'
   obtain⟨_,_,d,_,_,_,_,_,h6,h7⟩:=hT.at (t:=t) (by rw[hk];simp)
   rw[hk,DescOk]at h7
   subst h7
   obtain⟨n0,c0,rfl⟩:∃n0 c0,y=.const (.slice none n0 c0):=by
    unfold nilC at hy
    split at hy
    ·split at hy
     ·exact⟨_,_,rfl⟩
     ·cases hy
    ·cases hy
   have run:∀(w:World) (A:Option Addr) (n c:Nat) ,(do eqGuard .eql t x (.const (.slice none n0 c0)) (.slice A n c) (.slice none n0 c0);binOp .eql t (.slice A n c) (.slice none n0 c0):Sem Value).run P w=.ok (.bool A.isNone) w:=by
    intro w A n c
    have h9:(Op.equalIn Op.maxDepth t (.slice A n c) (.slice none n0 c0)).run P w=.ok A.isNone w:=run_eqIn_nil h6
    simp only[eqGuard,binOp,Op.equal,Sem.run_bind,h9,Result.andThen_ok,Bool.not_true,Bool.false_eq_true,if_false,Sem.run_pure]
   have fin:∀(val:V),K val [] [] s.nx→(∀(G:Gh) (w:World) (u:Value),vr G w v u→∃A n c,u=.slice A n c∧(val=.ubool∨(val=.bool false∧A ≠ none)))→ExOk P s g o K:=by
    intro val hK hval
    refine .of_pure (rd:=[]) hK fun hg G N a w s' hs ha _=>?_
    obtain⟨A,n,c,hu,hcase⟩:=hval G w _ (hv hg G w _ (ev_vr hs x (otm o (by simp[ho,Op.operands]) ha)))
    have hr:=run w A n c
    simp only[Sem.run_bind]at hr
    refine⟨.bool A.isNone,by simp only[execOp,ho,Sem.run_bind,hu];rw[show a.eval (.const (.slice none n0 c0))=.slice none n0 c0 from rfl,hr];rfl,?_⟩
    rcases hcase with rfl|⟨rfl,hA⟩
    ·exact .ubool _
    ·cases A with
     | none=>exact absurd rfl hA
     | some A=>exact .bool _
   unfold nilK at h
   split at h
   ·exact fin _ h fun G w u hu=>by cases hu;exact⟨_,_,_,rfl,.inl rfl⟩
   ·split at h
    ·exact fin _ h fun G w u hu=>by cases hu;exact⟨_,_,_,rfl,.inl rfl⟩
    ·refine fin _ h fun G w u hu=>?_
     cases hu with
     | sl _ _ _ A cap us hcap hm hA hrow hc hval=>
      obtain⟨ad,hA,_⟩:=hA (by simp)
      exact⟨A,_,_,rfl,.inr ⟨rfl,by simp[hA]⟩⟩
   ·split at h
    ·refine fin _ h fun G w u hu=>?_
     cases hu<;>exact⟨_,_,_,rfl,.inl rfl⟩
    ·refine fin _ h fun G w u hu=>?_
     cases hu
     exact⟨_,_,_,rfl,.inr ⟨rfl,by simp⟩⟩
   ·exact h.elim
  ·exact h.elim
 obtain⟨a,h,ha'⟩:=argK_out h
 split at h
 ·rename_i r hn
  obtain⟨v,hK,hop⟩:∃v:Bool,K (.bool v) [] [] s.nx∧((op=.eql∧v=r)∨(op=.neq∧v=!r)):=by
   unfold eqK at h
   split at h
   ·exact⟨_,h,.inl ⟨rfl,rfl⟩⟩
   ·exact⟨_,h,.inr ⟨rfl,rfl⟩⟩
   ·exact h.elim
  refine .of_pure (rd:=[]) hK fun hg G N act w s' hs ha _=>⟨.bool v,?_,.bool v⟩
  have hv:=ha' hg G w _ (ev_vr hs x (otm o (by simp[ho,Op.operands]) ha))
  generalize hux:act.eval x=ux at hv
  obtain⟨c,rfl⟩:∃c,y=.const c:=by
   unfold nil2 at hn
   split at hn
   ·exact⟨_,rfl⟩
   ·cases hn
  have key:(Op.equalIn Op.maxDepth t ux c).run P w=.ok r w∧(c=.nilIface∨c=.pointer none∨c=.map none):=by
   have hko:(T t).k ≠ .other:=by
    intro e
    unfold nil2 at hn
    rw[e]at hn
    simp only at hn
    split at hn<;>cases hn
   obtain⟨_,_,d,_,_,_,_,_,h6,h7⟩:=hT.at (t:=t) hko
   have big:∀d,(Op.equalIn (d + 1) t ux c).run P w=.ok r w∧(c=.nilIface∨c=.pointer none∨c=.map none):=by
    intro dd
    unfold nil2 at hn
    simp only at hn
    split at hn
    ·split at hn
     ·rename_i hk
      rw[hk,DescOk]at h7
      obtain⟨ms,rfl⟩:=h7
      split at hn<;>cases hn<;>cases hv<;>exact⟨by simp[Op.equalIn,run_underlying h6],.inl rfl⟩
     ·cases hn
    ·split at hn
     ·rename_i e hk
      rw[hk,DescOk]at h7
      subst h7
      split at hn<;>cases hn<;>cases hv<;>exact⟨by simp[Op.equalIn,run_underlying h6],.inr (.inl rfl)⟩
     ·cases hn
    ·split at hn
     ·rename_i e1 e2 hk
      rw[hk,DescOk]at h7
      subst h7
      split at hn<;>cases hn<;>cases hv<;>exact⟨by simp[Op.equalIn,run_underlying h6],.inr (.inr rfl)⟩
     ·cases hn
    ·cases hn
   exact big 9999
  have he:(eqGuard op t x (.const c) ux c).run P w=.ok () w:=by
   rcases key.2 with rfl|rfl|rfl<;>unfold eqGuard<;>cases op<;>cases ux<;>simp
  have hb:(binOp op t ux c).run P w=.ok (.bool v) w:=by
   rcases hop with⟨rfl,rfl⟩|⟨rfl,rfl⟩
   ·rcases key.2 with rfl|rfl|rfl<;>simp only[binOp,Op.equal,Sem.run_bind,key.1,Result.andThen_ok,Sem.run_pure]<;>rfl
   ·rcases key.2 with rfl|rfl|rfl<;>simp only[binOp,Op.equal,Sem.run_bind,key.1,Result.andThen_ok,Sem.run_pure]<;>rfl
  simp only[execOp,ho,Sem.run_bind,hux,show act.eval (.const c)=c from rfl,he,hb,Result.andThen_ok,Sem.run_pure]
 obtain⟨b,h,hb'⟩:=argK_out h
 obtain⟨v,hK,hv⟩:=binT_out hT (t:=t) (x:=x) (y:=y) h
 refine .of_pure (rd:=[]) hK fun hg G N a w s' hs ha _=>?_
 obtain⟨u,hu,hv⟩:=hv G w _ _ (ha' hg G w _ (ev_vr hs x (otm o (by simp[ho,Op.operands]) ha))) (hb' hg G w _ (ev_vr hs y (otm o (by simp[ho,Op.operands]) ha)))
 exact⟨u,by simp only[Sem.run_bind]at hu;simp only[execOp,ho,Sem.run_bind,hu,Result.andThen_ok,Sem.run_pure],hv⟩
theorem ex_not {t:TypeId} {x:Operand} (ho:o.op=.unOp .not t x) (h:exec T s g o K):ExOk P s g o K:=by
 simp only[exec,ho]at h
 obtain⟨v,h,hv⟩:=argK_out h
 split at h
 ·refine .of_pure (rd:=[]) h fun hg G N a w s' hs ha _=>⟨_,?_,.bool _⟩
  have hx:=VR.bool_iff.1 (hv hg G w _ (ev_vr hs x (otm o (by simp[ho,Op.operands]) ha)))
  simp[execOp,ho,hx,Op.unary]
 ·exact h.elim
theorem ex_neg {t:TypeId} {x:Operand} (ho:o.op=.unOp .neg t x) (h:exec T s g o K):ExOk P s g o K:=by
 simp only[exec,ho]at h
 obtain⟨v,h,hv⟩:=argK_out h
 split at h
 ·refine .of_pure (rd:=[]) h fun hg G N a w s' hs ha _=>⟨_,?_,.int _ _⟩
  have hx:=VR.int_iff.1 (hv hg G w _ (ev_vr hs x (otm o (by simp[ho,Op.operands]) ha)))
  simp[execOp,ho,hx,Op.unary,Op.intArith]
 ·exact h.elim
theorem list_drop_head {α:Type} {l:List α} {i:Nat} {v:α} {r:List α} (h:l.drop i=v :: r):l[i]? = some v:=by
 have:=List.getElem?_drop (xs:=l) (i:=i) (j:=0)
 rw[h]at this
 simpa using this.symm
theorem ex_extract {x:Operand} {i:Nat} (ho:o.op=.extract x i) (h:exec T s g o K):ExOk P s g o K:=by
 simp only[exec,ho]at h
 obtain⟨v,h,hv⟩:=argK_out h
 split at h
 ·rename_i vs
  obtain⟨hl,h⟩:=dropK_out h
  split at h
  ·rename_i v' r hr
   refine .of_pure (rd:=[]) h fun hg G N a w s' hs ha _=>?_
   have hx:=hv hg G w _ (ev_vr hs x (otm o (by simp[ho,Op.operands]) ha))
   generalize hux:a.eval x=ux at hx
   cases hx with
   | tup _ us hl' h'=>
    have hi:i < us.length:=by
     rw[← hl']
     have:=List.getElem?_eq_some_iff.1 (list_drop_head hr)
     exact this.1
    refine⟨us[i],?_,h' i v' _ (list_drop_head hr) (List.getElem?_eq_getElem hi)⟩
    simp[execOp,ho,hux,Instr.extract,List.getElem?_eq_getElem hi]
  ·exact h.elim
 ·exact h.elim
theorem ex_nilCheck {x:Operand} (ho:o.op=.nilCheck x) (h:exec T s g o K):ExOk P s g o K:=by
 simp only[exec,ho]at h
 obtain⟨v,h,hv⟩:=argK_out h
 split at h
 ·refine .of_pure (rd:=[]) h fun hg G N a w s' hs ha _=>?_
  have hx:=hv hg G w _ (ev_vr hs x (otm o (by simp[ho,Op.operands]) ha))
  refine⟨_,?_,hx⟩
  cases hx':a.eval x<;>rw[hx']at hx<;>cases hx
  simp[execOp,ho,hx']
 ·refine .of_pure (rd:=[]) h fun hg G N a w s' hs ha _=>?_
  have hx:=hv hg G w _ (ev_vr hs x (otm o (by simp[ho,Op.operands]) ha))
  refine⟨_,?_,hx⟩
  cases hx':a.eval x<;>rw[hx']at hx<;>cases hx
  simp[execOp,ho,hx']
 ·refine .of_pure (rd:=[]) h fun hg G N a w s' hs ha _=>?_
  have hx:=hv hg G w _ (ev_vr hs x (otm o (by simp[ho,Op.operands]) ha))
  refine⟨_,?_,hx⟩
  cases hx':a.eval x<;>rw[hx']at hx<;>cases hx
  simp[execOp,ho,hx']
 ·exact h.elim
def Reads (G:Gh) (w:World) (ad:Addr) (vs:List V):Prop:=
 ad.spot=none∧∃us:Nat→Value,∀(j:Nat) (v:V),vs[j]? = some v→w.cell? ⟨ad.block,ad.off + j,none⟩=some (us j)∧vr G w v (us j)
theorem Reads.drop {G:Gh} {w:World} {ad:Addr} {vs:List V} (h:Reads G w ad vs) (n:Nat):Reads G w ⟨ad.block,ad.off + n,none⟩ (vs.drop n):=by
 obtain⟨_,us,h⟩:=h
 refine⟨rfl,fun j=>us (n + j),fun j v hv=>?_⟩
 rw[List.getElem?_drop]at hv
 have:=h _ _ hv
 simpa[Nat.add_assoc]using this
theorem addr_eta {ad:Addr} (h:ad.spot=none):ad=⟨ad.block,ad.off,none⟩:=by cases ad;simp_all
theorem add_none {ad:Addr} (h:ad.spot=none) (n:Nat):ad.add n=⟨ad.block,ad.off + n,none⟩:=by
 unfold Addr.add
 split
 ·rename_i hn;subst hn;cases ad;simp_all
 ·rfl
theorem partK_out (hT:TabOk P T) {t:Nat} {cs:List V} {K:V→Prop} (h:partK (T t) cs K) :
  ∃v,K v∧∀(G:Gh) (w:World) (ad:Addr),Reads G w ad cs→∃u,(loadVar t ad).run P w=.ok u w∧vr G w v u:=by
 unfold partK at h
 obtain⟨h,ht⟩:=szK_out h
 split at h
 ·rename_i hk
  obtain⟨hl,h⟩:=takeK_out h
  refine⟨_,h,fun G w ad ⟨hs,us,hu⟩=>⟨.agg ((List.range (T t).size).map us).toArray,?_,?_⟩⟩
  ·simp only[loadVar,Sem.run_bind,hT.isAgg ht,Result.andThen_ok,hk,if_true,hT.sizeOf ht]
   rw[run_loadCells w ad (T t).size us (fun j hj=>by
    have hj':j < cs.length:=by omega
    rw[add_none hs]
    exact(hu j _ (List.getElem?_eq_getElem hj')).1)]
   rfl
  ·refine .agg _ _ (by simp;omega) fun j v u hv hu'=>?_
   have hj:j < (T t).size:=by
    rcases Nat.lt_or_ge j (T t).size with h|h
    ·exact h
    ·rw[List.getElem?_eq_none (by simp;omega)]at hv;cases hv
   rw[List.getElem?_take_of_lt hj]at hv
   have:=(hu j v hv).2
   simp[hj]at hu'
   subst hu'
   exact this
 ·rename_i hk
  cases cs with
  | nil=>exact h.elim
  | cons v r=>
   refine⟨v,h,fun G w ad ⟨hs,us,hu⟩=>⟨us 0,?_,(hu 0 v rfl).2⟩⟩
   have:=(hu 0 v rfl).1
   rw[Nat.add_zero,← addr_eta hs]at this
   simp[loadVar,hT.isAgg ht,hk,this]
theorem reads_iptr {G:Gh} {w:World} {fr:Bool} {cs:List V} {u:Value} (h:vr G w (.iptr fr cs) u):∃ad,u=.pointer (some ad)∧Reads G w ad cs:=by
 cases h with
 | iptr _ _ ad us hs hc hv=>exact⟨ad,rfl,hs,us,fun j v hj=>⟨(hc j v hj).1,hv j v hj⟩⟩
theorem Holds.reads {G:Gh} {w:World} {b:Nat} {fr ex:Bool} {ty:TypeId} {vs:List V} (h:Holds G w b fr ex ty vs) {c:Nat} (hc:G.ι b=some c):Reads G w ⟨c,0,none⟩ vs:=by
 obtain⟨c',cs,h1,h2,h3,_,_,h6,_⟩:=h
 rw[hc]at h1;cases h1
 refine⟨rfl,fun j=>cs.getD j undef,fun j v hv=>?_⟩
 obtain⟨u,hu,_,hr⟩:=h6 j v hv
 have:cs.getD j undef=u:=by simp[Array.getD_eq_getD_getElem?,hu]
 simp only[this]
 exact⟨by simp[World.cell?,h2,hu],hr⟩
theorem flatten_row {rows:List (List V)} {sz row:Nat} {r:List V} (hs:∀x,x∈rows→x.length=sz) (hr:rows[row]? = some r) :
  ∀(j:Nat) (v:V),r[j]? = some v→rows.flatten[row * sz + j]? = some v:=by
 induction rows generalizing row with
 | nil=>simp at hr
 | cons x rows ih=>
  intro j v hv
  have hx:x.length=sz:=hs x (by simp)
  cases row with
  | zero=>
   simp at hr
   subst hr
   have hj:=(List.getElem?_eq_some_iff.1 hv).1
   rw[List.flatten_cons,Nat.zero_mul,Nat.zero_add,List.getElem?_append_left hj]
   exact hv
  | succ row=>
   rw[List.flatten_cons,List.getElem?_append_right (by rw[hx,Nat.succ_mul];omega)]
   have:=ih (fun y hy=>hs y (by simp[hy])) (by simpa using hr) j v hv
   rw[hx,show(row + 1) * sz + j - sz=row * sz + j by rw[Nat.succ_mul];omega]
   exact this
theorem Reads.sub {G:Gh} {w:World} {c o:Nat} {vs:List V} (h:Reads G w ⟨c,0,none⟩ vs) {ws:List V} (hw:∀(j:Nat) (v:V),ws[j]? = some v→vs[o + j]? = some v):Reads G w ⟨c,o,none⟩ ws:=by
 obtain⟨_,us,hu⟩:=h
 exact⟨rfl,fun j=>us (o + j),fun j v hv=>by simpa using hu _ _ (hw j v hv)⟩
theorem ex_load (hT:TabOk P T) {t:TypeId} {x:Operand} (ho:o.op=.load t x) (h:exec T s g o K):ExOk P s g o K:=by
 simp only[exec,ho]at h
 obtain⟨v,h,hv⟩:=argK_out h
 split at h
 ·obtain⟨val,hK,hp⟩:=partK_out hT h
  refine .of_pure (rd:=[]) hK fun hg G N a w s' hs ha _=>?_
  obtain⟨ad,hx,hr⟩:=reads_iptr (hv hg G w _ (ev_vr hs x (otm o (by simp[ho,Op.operands]) ha)))
  obtain⟨u,hu,hvr⟩:=hp G w ad hr
  exact⟨u,by simp[execOp,ho,hx,Instr.loadAt,Instr.sureAddr,hu],hvr⟩
 ·rename_i b c
  split at h
  ·rename_i fr ty cells hb
   obtain⟨hl,h⟩:=dropK_out h
   obtain⟨val,hK,hp⟩:=partK_out hT h
   refine .of_pure hK (fun hg G N a w s' hs ha hrd=>?_) (.cons (.inl hb) (.nil _))
   have hx:=hv hg G w _ (ev_vr hs x (otm o (by simp[ho,Op.operands]) ha))
   generalize hux:a.eval x=ux at hx
   cases hx with
   | ptr _ _ c' hc=>
    have hown:Holds G w b fr true ty cells:=hs.hr.own b (.var fr ty cells) (hrd b _ (by simp))
    obtain⟨u,hu,hvr⟩:=hp G w ⟨c',c,none⟩ (by simpa using(hown.reads hc).drop c)
    exact⟨u,by simp[execOp,ho,hux,Instr.loadAt,Instr.sureAddr,hu],hvr⟩
  ·exact h.elim
 ·rename_i b sz row c
  split at h
  ·rename_i fr ex ty sz' rows hb
   obtain⟨rfl,r,hr,h⟩:=h
   obtain⟨hl,h⟩:=dropK_out h
   obtain⟨val,hK,hp⟩:=partK_out hT h
   refine .of_pure hK (fun hg G N a w s' hs ha hrd=>?_) (.cons (.inl hb) (.nil _))
   have hx:=hv hg G w _ (ev_vr hs x (otm o (by simp[ho,Op.operands]) ha))
   generalize hux:a.eval x=ux at hx
   cases hx with
   | eptr _ _ _ _ c' hc=>
    obtain⟨hsz,hown⟩:=hs.hr.own b (.arr fr ex ty sz' rows) (hrd b _ (by simp))
    rcases hown with⟨hn,_⟩|hown
    ·rw[hn]at hc;cases hc
    obtain⟨u,hu,hvr⟩:=hp G w ⟨c',row * sz' + c,none⟩ ((hown.reads hc).sub (o:=row * sz' + c) fun j v hj=>by
     rw[List.getElem?_drop]at hj
     have:=flatten_row hsz hr _ _ hj
     rwa [← Nat.add_assoc]at this)
    exact⟨u,by simp[execOp,ho,hux,Instr.loadAt,Instr.sureAddr,hu],hvr⟩
  ·exact h.elim
 ·exact h.elim
end
section
variable {P : Program} {T : Tab} {s : St} {g : Option Bool} {o : Oper} {K : OK}
theorem nth_getElem? {α:Type} (d:α):∀(l:List α) (n:Nat),n < l.length→l[n]? = some (nth d l n)
 | _ :: _,0,_=>rfl
 | _ :: r,n + 1,h=>by simpa[nth]using nth_getElem? d r n (by simpa using h)
 | [],_,h=>by simp at h
theorem TabOk.field (hT:TabOk P T) {t:Nat} {fs:List (Nat × Nat)} (hk:(T t).k=.struct fs) {f:Nat} (hf:Nat.blt f fs.length=true) :
  ∃fields fd,P.underlying t=some (.struct fields)∧fields[f]? = some fd∧(fd.offset,fd.type)=nth (0,0) fs f:=by
 obtain⟨i,z,d,_,_,_,_,_,h6,h7⟩:=hT.at (t:=t) (by rw[hk];simp)
 rw[hk,DescOk]at h7
 obtain⟨fields,rfl,hfs⟩:=h7
 have hf:f < fs.length:=by simpa[Nat.blt_eq]using hf
 have h:=nth_getElem? (0,0) fs f hf
 rw[← hfs,List.getElem?_map]at h
 obtain⟨fd,h1,h2⟩:=Option.map_eq_some_iff.1 h
 rw[hfs]at h2
 exact⟨fields,fd,h6,by simpa using h1,h2⟩
theorem ex_fieldAddr (hT:TabOk P T) {t:TypeId} {x:Operand} {f:Nat} (ho:o.op=.fieldAddr t x f) (h:exec T s g o K):ExOk P s g o K:=by
 simp only[exec,ho]at h
 obtain⟨v,h',hv⟩:=argK_out h;clear h;have h:=h';clear h'
 split at h
 ·rename_i fs hk
  obtain⟨h',ht⟩:=szK_out h;clear h;have h:=h';clear h'
  split at h
  ·rename_i hz hl
   obtain⟨fields,fd,hu,hfd,he⟩:=hT.field hk hl
   have e1:(nth (0,0) fs f).1=fd.offset:=by rw[← he]
   have e2:(nth (0,0) fs f).2=fd.type:=by rw[← he]
   simp only[e1,e2]at h hz ht
   have hz:(T fd.type).size ≠ 0:=by intro e;simp[e]at hz
   have run:∀(w:World) (ad:Addr),(Instr.fieldAt t (.pointer (some ad)) f).run P w=.ok (.pointer (some (ad.add fd.offset))) w:=by
    intro w ad
    simp[Instr.fieldAt,run_underlying hu,hfd,Instr.sureAddr,fieldPlace,hT.sizeOf ht,hz]
   split at h
   ·refine .of_pure (rd:=[]) h fun hg G N a w s' hs ha _=>?_
    have hx:=hv hg G w _ (ev_vr hs x (otm o (by simp[ho,Op.operands]) ha))
    generalize hux:a.eval x=ux at hx
    cases hx with
    | ptr b c c' hc=>exact⟨_,by simp only[execOp,ho,hux,Sem.run_bind,run,Result.andThen_ok,Sem.run_pure,add_none],.ptr _ _ _ hc⟩
   ·refine .of_pure (rd:=[]) h fun hg G N a w s' hs ha _=>?_
    have hx:=hv hg G w _ (ev_vr hs x (otm o (by simp[ho,Op.operands]) ha))
    generalize hux:a.eval x=ux at hx
    cases hx with
    | eptr b sz r c c' hc=>exact⟨_,by simp only[execOp,ho,hux,Sem.run_bind,run,Result.andThen_ok,Sem.run_pure,add_none,Nat.add_assoc],.eptr _ _ _ _ _ hc⟩
   ·obtain⟨_,h⟩:=dropK_out h
    refine .of_pure (rd:=[]) h fun hg G N a w s' hs ha _=>?_
    have hx:=hv hg G w _ (ev_vr hs x (otm o (by simp[ho,Op.operands]) ha))
    generalize hux:a.eval x=ux at hx
    cases hx with
    | iptr fr cs ad us hs' hc hv'=>
     refine⟨.pointer (some ⟨ad.block,ad.off + fd.offset,none⟩),by simp only[execOp,ho,hux,Sem.run_bind,run,Result.andThen_ok,Sem.run_pure,add_none hs'],.iptr _ _ _ (fun j=>us (fd.offset + j)) rfl (fun j v hj=>?_) fun j v hj=>?_⟩
     ·rw[List.getElem?_drop]at hj
      have:=hc _ _ hj
      simpa[Nat.add_assoc]using this
     ·rw[List.getElem?_drop]at hj
      exact hv' _ _ hj
   ·exact h.elim
  ·exact h.elim
 ·exact h.elim
theorem ex_field (hT:TabOk P T) {t:TypeId} {x:Operand} {f:Nat} (ho:o.op=.field t x f) (h:exec T s g o K):ExOk P s g o K:=by
 simp only[exec,ho]at h
 obtain⟨v,h',hv⟩:=argK_out h;clear h;have h:=h';clear h'
 split at h
 ·rename_i fs cs hk
  split at h
  ·rename_i hl
   obtain⟨hlen,h'⟩:=dropK_out h;clear h;have h:=h';clear h'
   obtain⟨fields,fd,hu,hfd,he⟩:=hT.field hk hl
   have e1:(nth (0,0) fs f).1=fd.offset:=by rw[← he]
   have e2:(nth (0,0) fs f).2=fd.type:=by rw[← he]
   simp only[e1,e2]at h hlen
   unfold partK at h
   obtain⟨h',ht⟩:=szK_out h;clear h;have h:=h';clear h'
   split at h
   ·rename_i hag
    obtain⟨hl2,h'⟩:=takeK_out h;clear h;have h:=h';clear h'
    refine .of_pure (rd:=[]) h fun hg G N a w s' hs ha _=>?_
    have hx:=hv hg G w _ (ev_vr hs x (otm o (by simp[ho,Op.operands]) ha))
    generalize hux:a.eval x=ux at hx
    cases hx with
    | agg _ us hl' h'=>
     refine⟨.agg ((us.drop fd.offset).take (T fd.type).size).toArray,?_,.agg _ _ (by simp;omega) fun j v u hv' hu'=>?_⟩
     ·simp only[execOp,ho,hux,Instr.field,Sem.run_bind,run_underlying hu,Result.andThen_ok,hfd,asAgg,Sem.run_pure,part,hT.isAgg ht,hag,if_true,hT.sizeOf ht]
      congr 3
      apply Array.ext'
      simp[Array.toList_extract,List.extract_eq_take_drop,Nat.add_sub_cancel_left,List.take_drop]
     ·have hj:j < (T fd.type).size:=by
       rcases Nat.lt_or_ge j (T fd.type).size with h|h
       ·exact h
       ·rw[List.getElem?_eq_none (by simp;omega)]at hv';cases hv'
      rw[List.getElem?_take_of_lt hj,List.getElem?_drop]at hv' hu'
      exact h' _ _ _ hv' hu'
   ·rename_i hag
    split at h
    ·rename_i v' r hd
     refine .of_pure (rd:=[]) h fun hg G N a w s' hs ha _=>?_
     have hx:=hv hg G w _ (ev_vr hs x (otm o (by simp[ho,Op.operands]) ha))
     generalize hux:a.eval x=ux at hx
     cases hx with
     | agg _ us hl' h'=>
      have hi:=list_drop_head hd
      have hlt:fd.offset < us.length:=by rw[← hl'];exact(List.getElem?_eq_some_iff.1 hi).1
      refine⟨us[fd.offset],?_,h' _ _ _ hi (List.getElem?_eq_getElem hlt)⟩
      simp[execOp,ho,hux,Instr.field,run_underlying hu,hfd,asAgg,part,hT.isAgg ht,hag,List.getElem?_eq_getElem hlt]
    ·exact h.elim
  ·exact h.elim
 ·exact h.elim
theorem gd_out {g:Option Bool} {p:Prop} (h:gd g p) (hg:g=none∨g=some true):p:=by
 rcases hg with rfl|rfl
 ·exact h
 ·exact h rfl
theorem flatten_cells {xs:List (List V)} {sz:Nat} (hs:∀x,x∈xs→x.length=sz):xs.flatten.length=xs.length * sz:=by
 induction xs with
 | nil=>simp
 | cons x xs ih=>
  rw[List.flatten_cons,List.length_append,ih (fun y hy=>hs y (by simp[hy])),hs x (by simp),List.length_cons,Nat.succ_mul,Nat.add_comm]
theorem ex_index (hT:TabOk P T) {t:TypeId} {x i:Operand} (ho:o.op=.index t x i) (h:exec T s g o K):ExOk P s g o K:=by
 simp only[exec,ho]at h
 obtain⟨v,h',hv⟩:=argK_out h;clear h;have h:=h';clear h'
 obtain⟨iv,h',hiv⟩:=argK_out h;clear h;have h:=h';clear h'
 split at h
 ·rename_i b k n hk
  obtain⟨hgd,h⟩:=h
  obtain⟨_,_,d,_,_,_,_,_,h6,h7⟩:=hT.at (t:=t) (by rw[hk];simp)
  rw[hk,DescOk]at h7
  subst h7
  refine .of_pure (rd:=[]) h fun hg G N a w s' hs ha _=>?_
  obtain⟨h0,hlt⟩:=gd_out hgd hg
  have hx:=VR.str_iff.1 (hv hg G w _ (ev_vr hs x (otm o (by simp[ho,Op.operands]) ha)))
  have hi:=VR.int_iff.1 (hiv hg G w _ (ev_vr hs i (otm o (by simp[ho,Op.operands]) ha)))
  refine⟨.int .u8 (atS b n.toNat),?_,.int _ _⟩
  have hat:atS b n.toNat=((b[n.toNat]'(by omega)).toNat:Int):=by
   have:n.toNat < b.data.toList.length:=by simpa using(by omega:n.toNat < b.size)
   simp only[atS,List.getElem?_eq_getElem this,Option.getD_some]
   rfl
  simp only[execOp,ho,hx,hi,Sem.run_bind,run_index_string w t b k n h6,dif_pos (show 0≤n∧n < b.size from⟨h0,hlt⟩),Result.andThen_ok,hat]
  try rfl
 ·exact h.elim
theorem ex_indexAddr (hT:TabOk P T) {t:TypeId} {x i:Operand} (ho:o.op=.indexAddr t x i) (h:exec T s g o K):ExOk P s g o K:=by
 simp only[exec,ho]at h
 obtain⟨v,h',hv⟩:=argK_out h;clear h;have h:=h';clear h'
 obtain⟨iv,h',hiv⟩:=argK_out h;clear h;have h:=h';clear h'
 split at h
 ·rename_i e fr sz xs k n hk
  obtain⟨h,ht⟩:=szK_out h
  obtain⟨rfl,c,hgd,h⟩:=h
  obtain⟨_,_,d,_,_,_,_,_,h6,h7⟩:=hT.at (t:=t) (by rw[hk];simp)
  rw[hk,DescOk]at h7
  subst h7
  refine .of_pure (rd:=[]) h fun hg G N a w s' hs ha _=>?_
  obtain⟨h0,hc⟩:=gd_out hgd hg
  have hx:=hv hg G w _ (ev_vr hs x (otm o (by simp[ho,Op.operands]) ha))
  have hi:=VR.int_iff.1 (hiv hg G w _ (ev_vr hs i (otm o (by simp[ho,Op.operands]) ha)))
  generalize hux:a.eval x=ux at hx
  have hlt:n.toNat < xs.length:=(List.getElem?_eq_some_iff.1 hc).1
  cases hx with
  | sl _ _ _ A cap us hcap hm hA hrow hcell hval=>
   obtain⟨ad,rfl,hsp⟩:=hA (by intro e;subst e;simp at hlt)
   refine⟨.pointer (some (ad.add (n.toNat * (T e).size))),?_,?_⟩
   ·simp only[execOp,ho,hux,hi,Instr.indexAt,asIntOf,Sem.run_bind,Sem.run_pure,Result.andThen_ok,run_underlying h6]
    rw[if_pos ⟨h0,by omega⟩]
    simp[hT.sizeOf ht]
   ·rw[add_none hsp]
    refine .iptr _ _ _ (fun j=>us (n.toNat * (T e).size + j)) rfl (fun j v hj=>?_) fun j v hj=>?_
    ·have:=hcell _ _ (flatten_row hrow hc j v hj) ad rfl
     simpa[Nat.add_assoc]using this
    ·exact hval _ _ (flatten_row hrow hc j v hj)
 ·rename_i e b sz row m k n hk
  obtain⟨h,ht⟩:=szK_out h
  obtain⟨rfl,hgd,h⟩:=h
  obtain⟨_,_,d,_,_,_,_,_,h6,h7⟩:=hT.at (t:=t) (by rw[hk];simp)
  rw[hk,DescOk]at h7
  subst h7
  refine .of_pure (rd:=[]) h fun hg G N a w s' hs ha _=>?_
  obtain⟨h0,hlt⟩:=gd_out hgd hg
  have hx:=hv hg G w _ (ev_vr hs x (otm o (by simp[ho,Op.operands]) ha))
  have hi:=VR.int_iff.1 (hiv hg G w _ (ev_vr hs i (otm o (by simp[ho,Op.operands]) ha)))
  generalize hux:a.eval x=ux at hx
  cases hx with
  | osl _ _ _ _ c cap m' hc hz he hn hm=>
   refine⟨.pointer (some ((⟨c,row * (T e).size,none⟩:Addr).add (n.toNat * (T e).size))),?_,?_⟩
   ·simp only[execOp,ho,hux,hi,Instr.indexAt,asIntOf,Sem.run_bind,Sem.run_pure,Result.andThen_ok,run_underlying h6]
    rw[if_pos ⟨h0,by omega⟩]
    simp[hT.sizeOf ht]
   ·rw[add_none rfl,← Nat.add_mul]
    exact .eptr _ _ _ _ _ hc
  | oslz=>omega
 ·rename_i e b sz row m k n hk
  obtain⟨h,ht⟩:=szK_out h
  obtain⟨rfl,hgd,h⟩:=h
  obtain⟨_,_,d,_,_,_,_,_,h6,h7⟩:=hT.at (t:=t) (by rw[hk];simp)
  rw[hk,DescOk]at h7
  subst h7
  refine .of_pure (rd:=[]) h fun hg G N a w s' hs ha _=>?_
  obtain⟨h0,hlt⟩:=gd_out hgd hg
  have hx:=hv hg G w _ (ev_vr hs x (otm o (by simp[ho,Op.operands]) ha))
  have hi:=VR.int_iff.1 (hiv hg G w _ (ev_vr hs i (otm o (by simp[ho,Op.operands]) ha)))
  generalize hux:a.eval x=ux at hx
  cases hx with
  | psl _ _ _ _ c cap m' hc hz he hn hm=>
   refine⟨.pointer (some ((⟨c,row * (T e).size,none⟩:Addr).add (n.toNat * (T e).size))),?_,?_⟩
   ·simp only[execOp,ho,hux,hi,Instr.indexAt,asIntOf,Sem.run_bind,Sem.run_pure,Result.andThen_ok,run_underlying h6]
    rw[if_pos ⟨h0,by omega⟩]
    simp[hT.sizeOf ht]
   ·rw[add_none rfl,← Nat.add_mul]
    exact .eptr _ _ _ _ _ hc
 ·exact h.elim
theorem evs_out {s:St}:∀{xs:List Operand} {K:List V→Prop},evs g s xs K→∃vs,K vs∧vs.length=xs.length∧((g=none∨g=some true)→∀(G:Gh) (N:Nat) (a:Act) (w:World) (s':St),Sim G N s' a w →
  (∀x∈xs,∀i,x=.tmp i→s'.get i=s.get i)→∀(j:Nat) (v:V) (x:Operand),vs[j]? = some v→xs[j]? = some x→vr G w v (a.eval x))
 | [],K,h=>⟨[],h,rfl,fun _ _ _ _ _ _ _ _ j v x hv=>by simp at hv⟩
 | x :: r,K,h=>by
  obtain⟨v,h',hv⟩:=argK_out h;clear h;have h:=h';clear h'
  obtain⟨vs,hK,hl,hvs⟩:=evs_out h
  refine⟨v :: vs,hK,by simp[hl],fun hg G N a w s' hs ha j v' x' h1 h2=>?_⟩
  cases j with
  | zero=>simp at h1 h2;subst h1;subst h2;exact hv hg G w _ (ev_vr hs x (ha x (by simp)))
  | succ j=>exact hvs hg G N a w s' hs (fun y hy=>ha y (by simp[hy])) j v' x' (by simpa using h1) (by simpa using h2)
theorem ex_makeFunc {fn:Fn} {first cap:Array Operand} (ho:o.op=.makeFunc fn first cap) (h:exec T s g o K):ExOk P s g o K:=by
 simp only[exec,ho]at h
 obtain⟨vs,h,hl,hvs⟩:=evs_out h
 obtain⟨ws,h,hl',hws⟩:=evs_out h
 refine .of_pure (rd:=[]) h fun hg G N a w s' hs ha _=>⟨.func fn (first.map a.eval) (cap.map a.eval),by simp[execOp,ho,Instr.makeFunc],?_⟩
 have e1:first.map a.eval=(first.toList.map a.eval).toArray:=by apply Array.ext';simp
 have e2:cap.map a.eval=(cap.toList.map a.eval).toArray:=by apply Array.ext';simp
 rw[e1,e2]
 refine .fn _ _ _ _ _ (by simpa using hl) (by simpa using hl') (fun j v u h1 h2=>?_) fun j v u h1 h2=>?_
 ·rw[List.getElem?_map]at h2
  obtain⟨x,hx,rfl⟩:=Option.map_eq_some_iff.1 h2
  exact hvs hg G N a w s' hs (fun y hy=>otm o (by rw[ho];exact Array.mem_append.2 (.inl (Array.mem_toList_iff.1 hy))) ha) j v x h1 hx
 ·rw[List.getElem?_map]at h2
  obtain⟨x,hx,rfl⟩:=Option.map_eq_some_iff.1 h2
  exact hws hg G N a w s' hs (fun y hy=>otm o (by rw[ho];exact Array.mem_append.2 (.inr (Array.mem_toList_iff.1 hy))) ha) j v x h1 hx
theorem ex_makeInterface (hT:TabOk P T) {t:TypeId} {x:Operand} (ho:o.op=.makeInterface t x) (h:exec T s g o K):ExOk P s g o K:=by
 simp only[exec,ho]at h
 obtain⟨v,h',hv⟩:=argK_out h;clear h;have h:=h';clear h'
 obtain⟨h,ht⟩:=szK_out h
 obtain⟨_,_,d,_,_,_,_,_,h6,h7⟩:=hT.at ht
 split at h
 ·exact h.elim
 ·rename_i hk
  refine .of_pure (rd:=[]) h fun hg G N a w s' hs ha _=>⟨_,?_,.ifc t _ _ (hv hg G w _ (ev_vr hs x (otm o (by simp[ho,Op.operands]) ha)))⟩
  have hd:∀ms,d ≠ .interface ms:=by
   rintro ms rfl
   generalize (T t).k=k at h7 hk ht
   cases k<;>simp[DescOk]at h7 hk ht
  simp only[execOp,ho,Instr.makeInterface,Sem.run_bind,run_underlying h6,Result.andThen_ok]
  cases d<;>first|(exact absurd rfl (hd _))|rfl
def Bnd (a:Act) (x:Option Operand) (l:Nat):Prop:=(x=none∧l=0)∨∃y k i,x=some y∧a.eval y=.int k i∧0≤i∧i.toNat=l
theorem bndK_out {x:Option Operand} {K:Nat→Prop→Prop} (h:bndK g s x K):∃l p,K l p∧(p→(g=none∨g=some true)→∀(G:Gh) (N:Nat) (a:Act) (w:World) (s':St),Sim G N s' a w →
  (∀y,x=some y→∀i,y=.tmp i→s'.get i=s.get i)→Bnd a x l):=by
 unfold bndK at h
 split at h
 ·exact⟨0,True,h,fun _ _ _ _ _ _ _ _ _=>.inl ⟨rfl,rfl⟩⟩
 ·rename_i y
  obtain⟨v,h',hv⟩:=argK_out h;clear h;have h:=h';clear h'
  split at h
  ·rename_i k i
   exact⟨_,_,h,fun hp hg G N a w s' hs ha=>.inr ⟨y,k,i,rfl,VR.int_iff.1 (hv hg G w _ (ev_vr hs y (ha y rfl))),hp,rfl⟩⟩
  ·exact h.elim
theorem run_slice_gen {w:World} {a:Act} {t e:TypeId} (hu:P.underlying t=some (.slice e)) {sz:Nat} (hs:(sizeOf e).run P w=.ok sz w) {lo hi:Option Operand} {l h:Nat} (A:Option Addr) {n cap:Nat}
  (hl:Bnd a lo l) (hh:(hi=none∧h=n)∨(∃y k i,hi=some y∧a.eval y=.int k i∧0≤i∧i.toNat=h)) (h1:l≤h) (h2:h≤cap) :
  (Instr.sliceAt t (.slice A n cap) (lo.map a.eval) (hi.map a.eval) none).run P w=.ok (.slice (if cap=l then A else A.map (·.add (l * sz))) (h - l) (cap - l)) w:=by
 have he:P.elem t=e:=by simp[Program.elem,hu]
 have hu':P.underlying t=some (.slice (P.elem t)):=by rw[he];exact hu
 rw[run_sliceAt_slice w t _ _ _ _ hu']
 rcases hl with⟨rfl,rfl⟩|⟨y,k,i,rfl,hy,h0,rfl⟩<;>rcases hh with⟨rfl,rfl⟩|⟨y',k',i',rfl,hy',h0',rfl⟩
 ·simp[run_slice_all w t A h cap hu',he,hs,sliced]
 ·simp[hy',run_slice_h w t A n cap hu' k' i' h0' (by omega),he,hs,sliced]
 ·simp[hy,run_slice_l w t A h cap hu' k i h0 (by omega),he,hs,sliced]
 ·simp[hy,hy',run_slice_lh w t A n cap hu' k k' i i' h0 (by omega) (by omega),he,hs,sliced]
theorem take_drop_flatten {xs:List (List V)} {sz:Nat} (hs:∀x,x∈xs→x.length=sz) (l h:Nat) (hh:h≤xs.length) {j:Nat} {v:V} (hv:((xs.take h).drop l).flatten[j]? = some v):xs.flatten[l * sz + j]? = some v:=by
 have h1:((xs.take h).take l).flatten.length≤l * sz:=by
  rw[flatten_cells (fun x hx=>hs x (List.mem_of_mem_take (List.mem_of_mem_take hx)))]
  exact Nat.mul_le_mul_right _ (by simp;omega)
 rcases Nat.lt_or_ge l h with hlt|hge
 ·have h2:((xs.take h).take l).flatten.length=l * sz:=by
   rw[flatten_cells (fun x hx=>hs x (List.mem_of_mem_take (List.mem_of_mem_take hx)))]
   congr 1
   simp;omega
  have e:xs.flatten=((xs.take h).take l).flatten ++ ((xs.take h).drop l).flatten ++ (xs.drop h).flatten:=by
   rw[← List.flatten_append,List.take_append_drop,← List.flatten_append,List.take_append_drop]
  have hj:=(List.getElem?_eq_some_iff.1 hv).1
  rw[e,List.append_assoc,List.getElem?_append_right (by omega),h2,Nat.add_sub_cancel_left,List.getElem?_append_left hj]
  exact hv
 ·rw[List.drop_eq_nil_of_le (by simp;omega)]at hv
  simp at hv
theorem vr_sl_cut {G:Gh} {w:World} {fr:Bool} {sz:Nat} {xs:List (List V)} {A:Option Addr} {n cap l h:Nat} (hx:vr G w (.sl fr sz xs) (.slice A n cap)) (h1:l≤h) (h2:h≤xs.length) :
  vr G w (.sl fr sz ((xs.take h).drop l)) (.slice (if cap=l then A else A.map (·.add (l * sz))) (h - l) (cap - l)):=by
 cases hx with
 | sl _ _ _ _ _ us hcap hm hA hrow hc hv=>
  have hlen:((xs.take h).drop l).length=h - l:=by simp;omega
  have:=VR.sl (ι:=G.ι) (csz:=csz w) (imm:=imm G w) fr sz ((xs.take h).drop l) (if cap=l then A else A.map (·.add (l * sz))) (cap - l) (fun j=>us (l * sz + j)) (by omega) (by omega) (fun hne=>by
    have hlt:l < h:=by
     rcases Nat.lt_or_ge l h with h'|h'
     ·exact h'
     ·exact absurd (List.eq_nil_of_length_eq_zero (by omega)) hne
    obtain⟨ad,rfl,hsp⟩:=hA (by intro e;subst e;simp at h2;omega)
    rw[if_neg (by omega)]
    exact⟨_,rfl,by simp only[add_none hsp]⟩) (fun x hx=>hrow x (List.mem_of_mem_take (List.mem_of_mem_drop hx))) (fun j v hj ad had=>by
    have hj':=take_drop_flatten hrow l h h2 hj
    have hlt:l < h:=by
     rcases Nat.lt_or_ge l h with h'|h'
     ·exact h'
     ·rw[List.drop_eq_nil_of_le (by simp;omega)]at hj;simp at hj
    rw[if_neg (by omega)]at had
    obtain⟨ad',rfl,hsp⟩:=hA (by intro e;subst e;simp at h2;omega)
    simp only[Option.map_some,Option.some.injEq]at had
    rw[add_none hsp]at had
    subst had
    have:=hc _ _ hj' ad' rfl
    simpa[Nat.add_assoc]using this) (fun j v hj=>hv _ _ (take_drop_flatten hrow l h h2 hj))
  rwa [hlen]at this
theorem ex_slice (hT:TabOk P T) {t:TypeId} {x:Operand} {lo hi mx:Option Operand} (ho:o.op=.slice t x lo hi mx) (h:exec T s g o K):ExOk P s g o K:=by
 simp only[exec,ho]at h
 obtain⟨v,h',hv⟩:=argK_out h;clear h;have h:=h';clear h'
 obtain⟨l,pl,h',hl⟩:=bndK_out h;clear h;have h:=h';clear h'
 have mx_:x∈o.op.operands:=by rw[ho];simp[Op.operands]
 have mlo:∀y,lo=some y→y∈o.op.operands:=by rintro y rfl;rw[ho];simp[Op.operands]
 have mhi:∀y,hi=some y→y∈o.op.operands:=by rintro y rfl;rw[ho];simp[Op.operands]
 have toH:∀{n:Nat} {hh:Nat} {pl ph:Prop} {y:Operand} {a:Act},Bnd a (some y) hh→((some y:Option Operand)=none∧hh=n)∨(∃z k i,some y=some z∧a.eval z=.int k i∧0≤i∧i.toNat=hh):=by
  intro n hh pl ph y a hb
  rcases hb with⟨hb,_⟩|hb
  ·cases hb
  ·exact .inr hb
 split at h
 ·rename_i e fr sz xs hk
  obtain⟨h',ht⟩:=szK_out h;clear h;have h:=h';clear h'
  obtain⟨rfl,h⟩:=h
  obtain⟨_,_,d,_,_,_,_,_,h6,h7⟩:=hT.at (t:=t) (by rw[hk];simp)
  rw[hk,DescOk]at h7
  subst h7
  split at h
  ·refine .of_pure (rd:=[]) h.2 fun hg G N a w s' hs ha _=>?_
   obtain⟨hp,hle⟩:=gd_out h.1 hg
   have hx:=hv hg G w _ (ev_vr hs x (otm o mx_ ha))
   have hb:=hl hp hg G N a w s' hs (fun y hy=>otm o (mlo y hy) ha)
   generalize hux:a.eval x=ux at hx
   have hx':=hx
   cases hx with
   | sl _ _ _ A cap us hcap hm hA hrow hc hval=>
    have hr:=run_slice_gen (P:=P) (a:=a) h6 (hT.sizeOf ht w) A (n:=xs.length) (cap:=cap) (lo:=lo) (hi:=none) hb (.inl ⟨rfl,rfl⟩) hle hcap
    have:=vr_sl_cut hx' hle (Nat.le_refl _)
    rw[List.take_length]at this
    exact⟨_,by simp only[Option.map_none]at hr;simp only[execOp,ho,hux,Option.map_none,Sem.run_bind,hr,Result.andThen_ok,Sem.run_pure],this⟩
  ·rename_i hy
   obtain⟨hh,ph,h',hb2⟩:=bndK_out h;clear h;have h:=h';clear h'
   refine .of_pure (rd:=[]) h.2 fun hg G N a w s' hs ha _=>?_
   obtain⟨hp,hph,hle,hle2⟩:=gd_out h.1 hg
   have hx:=hv hg G w _ (ev_vr hs x (otm o mx_ ha))
   have hb:=hl hp hg G N a w s' hs (fun y hy=>otm o (mlo y hy) ha)
   have hb2:=hb2 hph hg G N a w s' hs (fun y hy=>otm o (mhi y hy) ha)
   generalize hux:a.eval x=ux at hx
   have hx':=hx
   cases hx with
   | sl _ _ _ A cap us hcap hm hA hrow hc hval=>
    have hr:=run_slice_gen (P:=P) (a:=a) h6 (hT.sizeOf ht w) A (n:=xs.length) (cap:=cap) (lo:=lo) (hi:=some hy) hb (toH (pl:=True) (ph:=True) hb2) hle (by omega)
    exact⟨_,by simp only[execOp,ho,hux,Option.map_none,Sem.run_bind,hr,Result.andThen_ok,Sem.run_pure],vr_sl_cut hx' hle hle2⟩
 ·rename_i e b sz row n hk
  obtain⟨h',ht⟩:=szK_out h;clear h;have h:=h';clear h'
  obtain⟨rfl,h⟩:=h
  obtain⟨_,_,d,_,_,_,_,_,h6,h7⟩:=hT.at (t:=t) (by rw[hk];simp)
  rw[hk,DescOk]at h7
  subst h7
  have fin:∀{G:Gh} {w:World} {l hh A cap},vr G w (.osl b (T e).size row n) (.slice A n cap)→l≤hh→hh≤n→vr G w (.osl b (T e).size (row + l) (hh - l)) (.slice (if cap=l then A else A.map (·.add (l * (T e).size))) (hh - l) (cap - l)):=by
   intro G w l hh A cap hx h1 h2
   cases hx with
   | osl _ _ _ _ c _ m hc hz he hn hm=>
    by_cases hcl:cap=l
    ·rw[if_pos hcl,show hh - l=0 by omega,show cap - l=0 by omega]
     exact .oslz _ _ _ _
    ·rw[if_neg hcl,Option.map_some,add_none rfl,show row * (T e).size + l * (T e).size=(row + l) * (T e).size by rw[Nat.add_mul]]
     exact .osl _ _ _ _ c _ m hc hz (by rw[← he];congr 1;omega) (by omega) (by omega)
   | oslz=>
    rw[show hh - l=0 by omega,show(0:Nat) - l=0 by omega]
    exact .oslz _ _ _ _
  have ex:∀{G:Gh} {w:World} {ux},vr G w (.osl b (T e).size row n) ux→∃A cap,ux=.slice A n cap∧n≤cap:=by
   intro G w ux hx
   cases hx with
   | osl _ _ _ _ c cap m hc hz he hn hm=>exact⟨_,cap,rfl,hn⟩
   | oslz _ _ _ A=>exact⟨A,0,rfl,Nat.le_refl _⟩
  split at h
  ·refine .of_pure (rd:=[]) h.2 fun hg G N a w s' hs ha _=>?_
   obtain⟨hp,hle⟩:=gd_out h.1 hg
   have hx:=hv hg G w _ (ev_vr hs x (otm o mx_ ha))
   have hb:=hl hp hg G N a w s' hs (fun y hy=>otm o (mlo y hy) ha)
   obtain⟨A,cap,hux,hcap⟩:=ex hx
   rw[hux]at hx
   have hr:=run_slice_gen (P:=P) (a:=a) h6 (hT.sizeOf ht w) A (n:=n) (cap:=cap) (lo:=lo) (hi:=none) hb (.inl ⟨rfl,rfl⟩) hle hcap
   exact⟨_,by simp only[Option.map_none]at hr;simp only[execOp,ho,hux,Option.map_none,Sem.run_bind,hr,Result.andThen_ok,Sem.run_pure],fin hx hle (Nat.le_refl _)⟩
  ·rename_i hy
   obtain⟨hh,ph,h',hb2⟩:=bndK_out h;clear h;have h:=h';clear h'
   obtain⟨q,h⟩:=h
   cases q with
   | lies=>
    obtain⟨hgd,hn0,h⟩:=h
    refine .of_pure (rd:=[]) h fun hg G N a w s' hs ha _=>?_
    obtain⟨hp,hph,rfl,hle2⟩:=gd_out hgd hg
    have hx:=hv hg G w _ (ev_vr hs x (otm o mx_ ha))
    have hb:=hl hp hg G N a w s' hs (fun y hy=>otm o (mlo y hy) ha)
    have hb2:=hb2 hph hg G N a w s' hs (fun y hy=>otm o (mhi y hy) ha)
    generalize hux:a.eval x=ux at hx
    cases hx with
    | osl _ _ _ _ c cap m hc hz he hn hm=>
     have hr:=run_slice_gen (P:=P) (a:=a) h6 (hT.sizeOf ht w) (some ⟨c,row * (T e).size,none⟩) (n:=n) (cap:=cap) (lo:=lo) (hi:=some hy) hb (toH (pl:=True) (ph:=True) hb2) (Nat.zero_le _) (by omega)
     have e0:(if cap=0 then some (⟨c,row * (T e).size,none⟩:Addr)else(some (⟨c,row * (T e).size,none⟩:Addr)).map (·.add (0 * (T e).size)))=some ⟨c,row * (T e).size,none⟩:=by split<;>simp[Addr.add]
     rw[e0,Nat.sub_zero,Nat.sub_zero]at hr
     exact⟨.slice (some ⟨c,row * (T e).size,none⟩) hh cap,by simp only[execOp,ho,hux,Option.map_none,Sem.run_bind,hr,Result.andThen_ok,Sem.run_pure],.psl _ _ _ _ c cap m hc hz he (by omega) hm⟩
    | oslz=>omega
   | past=>
    simp only at h
    split at h
    ·rename_i fr ex' ty sz' rows hblk
     obtain⟨rfl,hpos,hn0,hgd,h⟩:=h
     refine .of_pure (rd:=[(b,some (.arr fr ex' ty (T e).size rows))]) h (fun hg G N a w s' hs ha hr=>?_) (.cons (.inl hblk) (.nil _))
     obtain⟨hp,hph,rfl,hle2⟩:=gd_out hgd hg
     have hx:=hv hg G w _ (ev_vr hs x (otm o mx_ ha))
     have hb:=hl hp hg G N a w s' hs (fun y hy=>otm o (mlo y hy) ha)
     have hb2:=hb2 hph hg G N a w s' hs (fun y hy=>otm o (mhi y hy) ha)
     have hb':hget s'.h b=some (.arr fr ex' ty (T e).size rows):=hr b _ (by simp)
     obtain⟨hro,hown⟩:=hs.hr.own b (.arr fr ex' ty (T e).size rows) hb'
     generalize hux:a.eval x=ux at hx
     cases hx with
     | osl _ _ _ _ c cap m hc hz he hn hm=>
      rcases hown with⟨h1,_⟩|⟨c3,cs,e1,hheap,hln,_⟩
      ·rw[h1]at hc;cases hc
      rw[hc]at e1;cases e1
      have hcsz:cs.size=m:=by
       have:csz w c=some cs.size:=by unfold csz;rw[hheap]
       rw[this]at hz;exact Option.some.inj hz
      rw[flatten_cells hro,hcsz,← he]at hln
      have hcap:rows.length≤row + cap:=Nat.le_of_mul_le_mul_right hln hpos
      have hr:=run_slice_gen (P:=P) (a:=a) h6 (hT.sizeOf ht w) (some ⟨c,row * (T e).size,none⟩) (n:=n) (cap:=cap) (lo:=lo) (hi:=some hy) hb (toH (pl:=True) (ph:=True) hb2) (Nat.zero_le _) (by omega)
      have e0:(if cap=0 then some (⟨c,row * (T e).size,none⟩:Addr)else(some (⟨c,row * (T e).size,none⟩:Addr)).map (·.add (0 * (T e).size)))=some ⟨c,row * (T e).size,none⟩:=by split<;>simp[Addr.add]
      rw[e0,Nat.sub_zero,Nat.sub_zero]at hr
      exact⟨_,by simp only[execOp,ho,hux,Option.map_none,Sem.run_bind,hr,Result.andThen_ok,Sem.run_pure],.osl _ _ _ _ c cap m hc hz he (by omega) hm⟩
     | oslz=>omega
    ·exact h.elim
   | own=>
   obtain⟨hgd,h⟩:=h
   refine .of_pure (rd:=[]) h fun hg G N a w s' hs ha _=>?_
   obtain⟨hp,hph,hle,hle2⟩:=gd_out hgd hg
   have hx:=hv hg G w _ (ev_vr hs x (otm o mx_ ha))
   have hb:=hl hp hg G N a w s' hs (fun y hy=>otm o (mlo y hy) ha)
   have hb2:=hb2 hph hg G N a w s' hs (fun y hy=>otm o (mhi y hy) ha)
   obtain⟨A,cap,hux,hcap⟩:=ex hx
   rw[hux]at hx
   have hr:=run_slice_gen (P:=P) (a:=a) h6 (hT.sizeOf ht w) A (n:=n) (cap:=cap) (lo:=lo) (hi:=some hy) hb (toH (pl:=True) (ph:=True) hb2) hle (by omega)
   exact⟨_,by simp only[execOp,ho,hux,Option.map_none,Sem.run_bind,hr,Result.andThen_ok,Sem.run_pure],fin hx hle hle2⟩
 ·rename_i e b sz row n hk
  obtain⟨h',ht⟩:=szK_out h;clear h;have h:=h';clear h'
  obtain⟨rfl,h⟩:=h
  obtain⟨_,_,d,_,_,_,_,_,h6,h7⟩:=hT.at (t:=t) (by rw[hk];simp)
  rw[hk,DescOk]at h7
  subst h7
  split at h
  ·exact h.elim
  ·rename_i hy
   obtain⟨hh,ph,h',hb2⟩:=bndK_out h;clear h;have h:=h';clear h'
   split at h
   ·rename_i fr ex' ty sz' rows hblk
    obtain⟨rfl,hpos,hgd,h⟩:=h
    refine .of_pure (rd:=[(b,some (.arr fr ex' ty (T e).size rows))]) h (fun hg G N a w s' hs ha hr=>?_) (.cons (.inl hblk) (.nil _))
    obtain⟨hp,hph,rfl,hle2⟩:=gd_out hgd hg
    have hx:=hv hg G w _ (ev_vr hs x (otm o mx_ ha))
    have hb:=hl hp hg G N a w s' hs (fun y hy=>otm o (mlo y hy) ha)
    have hb2:=hb2 hph hg G N a w s' hs (fun y hy=>otm o (mhi y hy) ha)
    have hb':hget s'.h b=some (.arr fr ex' ty (T e).size rows):=hr b _ (by simp)
    obtain⟨hro,hown⟩:=hs.hr.own b (.arr fr ex' ty (T e).size rows) hb'
    generalize hux:a.eval x=ux at hx
    cases hx with
    | psl _ _ _ _ c cap m hc hz he hn hm=>
     rcases hown with⟨h1,_⟩|⟨c3,cs,e1,hheap,hln,_⟩
     ·rw[h1]at hc;cases hc
     rw[hc]at e1;cases e1
     have hcsz:cs.size=m:=by
      have:csz w c=some cs.size:=by unfold csz;rw[hheap]
      rw[this]at hz;exact Option.some.inj hz
     rw[flatten_cells hro,hcsz,← he]at hln
     have hcap:rows.length≤row + cap:=Nat.le_of_mul_le_mul_right hln hpos
     have hr:=run_slice_gen (P:=P) (a:=a) h6 (hT.sizeOf ht w) (some ⟨c,row * (T e).size,none⟩) (n:=n) (cap:=cap) (lo:=lo) (hi:=some hy) hb (toH (pl:=True) (ph:=True) hb2) (Nat.zero_le _) (by omega)
     have e0:(if cap=0 then some (⟨c,row * (T e).size,none⟩:Addr)else(some (⟨c,row * (T e).size,none⟩:Addr)).map (·.add (0 * (T e).size)))=some ⟨c,row * (T e).size,none⟩:=by split<;>simp[Addr.add]
     rw[e0,Nat.sub_zero,Nat.sub_zero]at hr
     exact⟨_,by simp only[execOp,ho,hux,Option.map_none,Sem.run_bind,hr,Result.andThen_ok,Sem.run_pure],.psl _ _ _ _ c cap m hc hz he (by omega) hm⟩
   ·exact h.elim
 ·rename_i e hk
  obtain⟨h',ht⟩:=szK_out h;clear h;have h:=h';clear h'
  obtain⟨_,_,d,_,_,_,_,_,h6,h7⟩:=hT.at (t:=t) (by rw[hk];simp)
  rw[hk,DescOk]at h7
  subst h7
  split at h
  ·refine .of_pure (rd:=[]) h.2 fun hg G N a w s' hs ha _=>?_
   obtain⟨hp,rfl⟩:=gd_out h.1 hg
   have hx:=hv hg G w _ (ev_vr hs x (otm o mx_ ha))
   have hb:=hl hp hg G N a w s' hs (fun y hy=>otm o (mlo y hy) ha)
   obtain⟨A,hux⟩:∃A,a.eval x=.slice A 0 0:=by
    generalize a.eval x=ux at hx
    cases hx;exact⟨_,rfl⟩
   have hr:=run_slice_gen (P:=P) (a:=a) h6 (hT.sizeOf ht w) A (n:=0) (cap:=0) (lo:=lo) (hi:=none) hb (.inl ⟨rfl,rfl⟩) (Nat.le_refl _) (Nat.le_refl _)
   exact⟨.slice (if 0=0 then A else Option.map (fun x=>x.add (0 * (T e).size)) A) 0 0,by simp only[Option.map_none]at hr;simp only[execOp,ho,hux,Option.map_none,Sem.run_bind,hr,Result.andThen_ok,Sem.run_pure],.snil _⟩
  ·rename_i hy
   obtain⟨hh,ph,h',hb2⟩:=bndK_out h;clear h;have h:=h';clear h'
   refine .of_pure (rd:=[]) h.2 fun hg G N a w s' hs ha _=>?_
   obtain⟨hp,hph,rfl,rfl⟩:=gd_out h.1 hg
   have hx:=hv hg G w _ (ev_vr hs x (otm o mx_ ha))
   have hb:=hl hp hg G N a w s' hs (fun y hy=>otm o (mlo y hy) ha)
   have hb2:=hb2 hph hg G N a w s' hs (fun y hy=>otm o (mhi y hy) ha)
   obtain⟨A,hux⟩:∃A,a.eval x=.slice A 0 0:=by
    generalize a.eval x=ux at hx
    cases hx;exact⟨_,rfl⟩
   have hr:=run_slice_gen (P:=P) (a:=a) h6 (hT.sizeOf ht w) A (n:=0) (cap:=0) (lo:=lo) (hi:=some hy) hb (toH (pl:=True) (ph:=True) hb2) (Nat.le_refl _) (Nat.le_refl _)
   exact⟨.slice (if 0=0 then A else Option.map (fun x=>x.add (0 * (T e).size)) A) 0 0,by simp only[execOp,ho,hux,Option.map_none,Sem.run_bind,hr,Result.andThen_ok,Sem.run_pure],.snil _⟩
 ·rename_i bs hk
  obtain⟨_,_,d,_,_,_,_,_,h6,h7⟩:=hT.at (t:=t) (by rw[hk];simp)
  rw[hk,DescOk]at h7
  subst h7
  have run:∀{w:World} {a:Act} {lo hi:Option Operand} {l h:Nat},Bnd a lo l→((hi=none∧h=bs.size)∨(∃y k i,hi=some y∧a.eval y=.int k i∧0≤i∧i.toNat=h))→l≤h→h≤bs.size →
    (Instr.sliceAt t (.string bs) (lo.map a.eval) (hi.map a.eval) none).run P w=.ok (.string (bs.extract l h)) w:=by
   intro w a lo hi l h hl hh h1 h2
   rw[run_sliceAt_string w t _ _ _ _ h6]
   rcases hl with⟨rfl,rfl⟩|⟨y,k,i,rfl,hy,h0,rfl⟩<;>rcases hh with⟨rfl,rfl⟩|⟨y',k',i',rfl,hy',h0',rfl⟩
   ·simp[Instr.slice,run_underlying h6,Instr.sliceBounds]
   ·simp[Instr.slice,run_underlying h6,Instr.sliceBounds,hy',run_sliceBound w k' i' bs.size _ h0' (by omega)]
   ·simp[Instr.slice,run_underlying h6,Instr.sliceBounds,hy,run_sliceBound w k i bs.size _ h0 (by omega)]
   ·simp[Instr.slice,run_underlying h6,Instr.sliceBounds,hy,hy',run_sliceBound w k' i' bs.size _ h0' (by omega),run_sliceBound w k i i'.toNat _ h0 (by omega)]
  split at h
  ·refine .of_pure (rd:=[]) h.2 fun hg G N a w s' hs ha _=>?_
   obtain⟨hp,hle⟩:=gd_out h.1 hg
   have hux:=VR.str_iff.1 (hv hg G w _ (ev_vr hs x (otm o mx_ ha)))
   have hb:=hl hp hg G N a w s' hs (fun y hy=>otm o (mlo y hy) ha)
   have hr:=run (w:=w) (hi:=none) hb (.inl ⟨rfl,rfl⟩) hle (Nat.le_refl _)
   exact⟨_,by simp only[Option.map_none]at hr;simp only[execOp,ho,hux,Option.map_none,Sem.run_bind,hr,Result.andThen_ok,Sem.run_pure],.str _⟩
  ·rename_i hy
   obtain⟨hh,ph,h',hb2⟩:=bndK_out h;clear h;have h:=h';clear h'
   refine .of_pure (rd:=[]) h.2 fun hg G N a w s' hs ha _=>?_
   obtain⟨hp,hph,hle,hle2⟩:=gd_out h.1 hg
   have hux:=VR.str_iff.1 (hv hg G w _ (ev_vr hs x (otm o mx_ ha)))
   have hb:=hl hp hg G N a w s' hs (fun y hy=>otm o (mlo y hy) ha)
   have hb2:=hb2 hph hg G N a w s' hs (fun y hy=>otm o (mhi y hy) ha)
   have hr:=run (w:=w) (hi:=some hy) hb (toH (pl:=True) (ph:=True) hb2) hle hle2
   exact⟨_,by simp only[execOp,ho,hux,Option.map_none,Sem.run_bind,hr,Result.andThen_ok,Sem.run_pure],.str _⟩
 ·rename_i e mt fr sz xs hk
  obtain⟨h',ht⟩:=szK_out h;clear h;have h:=h';clear h'
  obtain⟨rfl,h⟩:=h
  obtain⟨_,_,d,_,_,_,_,_,h6,h7⟩:=hT.at (t:=t) (by rw[hk];simp)
  rw[hk,DescOk]at h7
  subst h7
  split at h
  ·exact h.elim
  ·rename_i hy
   obtain⟨hh,ph,h',hb2⟩:=bndK_out h;clear h;have h:=h';clear h'
   obtain⟨m,pm,h',hb3⟩:=bndK_out h;clear h;have h:=h';clear h'
   refine .of_pure (rd:=[]) h.2 fun hg G N a w s' hs ha _=>?_
   obtain⟨hp,hph,hpm,hle,hle2,hle3⟩:=gd_out h.1 hg
   have hx:=hv hg G w _ (ev_vr hs x (otm o mx_ ha))
   have hb:=hl hp hg G N a w s' hs (fun y hy=>otm o (mlo y hy) ha)
   have hb2:=hb2 hph hg G N a w s' hs (fun y hy=>otm o (mhi y hy) ha)
   have hb3:=hb3 hpm hg G N a w s' hs (fun y hy=>otm o (by rw[ho];simp at hy;subst hy;simp[Op.operands]) ha)
   have hel:P.elem t=e:=by simp[Program.elem,h6]
   have hu':P.underlying t=some (.slice (P.elem t)):=by rw[hel];exact h6
   generalize hux:a.eval x=ux at hx
   cases hx with
   | sl _ _ _ A cap us hcap hm hA hrow hc hval=>
    have htk:∀(j:Nat) (v:V),(xs.take m).flatten[j]? = some v→xs.flatten[j]? = some v:=by
     intro j v hj
     have:=take_drop_flatten hrow 0 m hle3 (j:=j) (v:=v) (by simpa using hj)
     simpa using this
    have hlen:(xs.take m).length=m:=by simp;omega
    have hx2:vr G w (.sl fr (T e).size (xs.take m)) (.slice A m m):=by
     have:=VR.sl (ι:=G.ι) (csz:=csz w) (imm:=imm G w) fr (T e).size (xs.take m) A m us (by omega) (by omega) (fun hne=>hA (by intro e;subst e;simp at hne)) (fun x hx=>hrow x (List.mem_of_mem_take hx)) (fun j v hj=>hc j v (htk j v hj)) (fun j v hj=>hval j v (htk j v hj))
     rwa [hlen]at this
    have hcut:=vr_sl_cut hx2 hle (by omega)
    rw[List.take_take,Nat.min_eq_left hle2]at hcut
    rcases hb2 with⟨hb2,_⟩|⟨y2,k2,i2,hy2,hyv2,h02,hi2⟩
    ·cases hb2
    rcases hb3 with⟨hb3,_⟩|⟨y3,k3,i3,hy3,hyv3,h03,hi3⟩
    ·cases hb3
    cases hy2;cases hy3
    rcases hb with⟨rfl,rfl⟩|⟨y,k',i,rfl,hyv,h0,hi⟩
    ·exact⟨_,by simp only[execOp,ho,hux,hyv2,hyv3,Option.map_none,Option.map_some,Sem.run_bind,run_sliceAt_slice w t _ _ _ _ hu',run_slice_hm w t A xs.length cap hu' _ _ i2 i3 (by omega) (by omega) (by omega),hel,hT.sizeOf ht w,Result.andThen_ok,Sem.run_pure,sliced,hi2,hi3],hcut⟩
    ·exact⟨_,by simp only[execOp,ho,hux,hyv,hyv2,hyv3,Option.map_none,Option.map_some,Sem.run_bind,run_sliceAt_slice w t _ _ _ _ hu',run_slice_lhm w t A xs.length cap hu' _ _ _ i i2 i3 (by omega) (by omega) (by omega) (by omega),hel,hT.sizeOf ht w,Result.andThen_ok,Sem.run_pure,sliced,hi,hi2,hi3],hcut⟩
 ·rename_i e k0 fr sz xs hk
  obtain⟨h',ht⟩:=szK_out h;clear h;have h:=h';clear h'
  obtain⟨_,_,d,_,_,_,_,_,h6,h7⟩:=hT.at (t:=t) (by rw[hk];simp)
  rw[hk,DescOk]at h7
  subst h7
  split at h
  ·rename_i k1
   split at h
   ·refine .of_pure (rd:=[]) h.2 fun hg G N a w s' hs ha _=>?_
    have hx:=hv hg G w _ (ev_vr hs x (otm o mx_ ha))
    have hb:=hl (gd_out h.1 hg) hg G N a w s' hs (fun y hy=>otm o (mlo y hy) ha)
    obtain⟨A,n,cap,hux⟩:∃A n cap,a.eval x=.slice A n cap:=by
     generalize a.eval x=ux at hx
     cases hx<;>exact⟨_,_,_,rfl⟩
    have hel:P.elem t=e:=by simp[Program.elem,h6]
    have hu':P.underlying t=some (.slice (P.elem t)):=by rw[hel];exact h6
    have e0:∀(k:IntKind),a.eval (.const (.int k 0))=.int k 0:=fun _=>rfl
    refine⟨.slice (if(0:Nat)=0 then A else A.map (·.add (0 * (T e).size))) 0 0,?_,.snil _⟩
    rcases hb with⟨rfl,_⟩|⟨y,k',i,rfl,hy,h0,hi⟩
    ·simp only[execOp,ho,hux,Option.map_none,Option.map_some,e0,Sem.run_bind,run_sliceAt_slice w t _ _ _ _ hu',run_slice_hm w t A n cap hu' _ _ 0 0 (by omega) (by omega) (by omega),hel,hT.sizeOf ht w,Result.andThen_ok,Sem.run_pure,sliced]
     rfl
    ·have hi0:i=0:=by omega
     subst hi0
     simp only[execOp,ho,hux,hy,Option.map_none,Option.map_some,e0,Sem.run_bind,run_sliceAt_slice w t _ _ _ _ hu',run_slice_lhm w t A n cap hu' _ _ _ 0 0 0 (by omega) (by omega) (by omega) (by omega),hel,hT.sizeOf ht w,Result.andThen_ok,Sem.run_pure,sliced]
     rfl
   ·exact h.elim
  ·exact h.elim
 ·rename_i e k0 b sz row n hk
  obtain⟨h',ht⟩:=szK_out h;clear h;have h:=h';clear h'
  obtain⟨_,_,d,_,_,_,_,_,h6,h7⟩:=hT.at (t:=t) (by rw[hk];simp)
  rw[hk,DescOk]at h7
  subst h7
  split at h
  ·rename_i k1
   split at h
   ·refine .of_pure (rd:=[]) h.2 fun hg G N a w s' hs ha _=>?_
    have hx:=hv hg G w _ (ev_vr hs x (otm o mx_ ha))
    have hb:=hl (gd_out h.1 hg) hg G N a w s' hs (fun y hy=>otm o (mlo y hy) ha)
    obtain⟨A,n,cap,hux⟩:∃A n cap,a.eval x=.slice A n cap:=by
     generalize a.eval x=ux at hx
     cases hx<;>exact⟨_,_,_,rfl⟩
    have hel:P.elem t=e:=by simp[Program.elem,h6]
    have hu':P.underlying t=some (.slice (P.elem t)):=by rw[hel];exact h6
    have e0:∀(k:IntKind),a.eval (.const (.int k 0))=.int k 0:=fun _=>rfl
    refine⟨.slice (if(0:Nat)=0 then A else A.map (·.add (0 * (T e).size))) 0 0,?_,.snil _⟩
    rcases hb with⟨rfl,_⟩|⟨y,k',i,rfl,hy,h0,hi⟩
    ·simp only[execOp,ho,hux,Option.map_none,Option.map_some,e0,Sem.run_bind,run_sliceAt_slice w t _ _ _ _ hu',run_slice_hm w t A n cap hu' _ _ 0 0 (by omega) (by omega) (by omega),hel,hT.sizeOf ht w,Result.andThen_ok,Sem.run_pure,sliced]
     rfl
    ·have hi0:i=0:=by omega
     subst hi0
     simp only[execOp,ho,hux,hy,Option.map_none,Option.map_some,e0,Sem.run_bind,run_sliceAt_slice w t _ _ _ _ hu',run_slice_lhm w t A n cap hu' _ _ _ 0 0 0 (by omega) (by omega) (by omega) (by omega),hel,hT.sizeOf ht w,Result.andThen_ok,Sem.run_pure,sliced]
     rfl
   ·exact h.elim
  ·exact h.elim
 ·rename_i e k0 hk
  obtain⟨h',ht⟩:=szK_out h;clear h;have h:=h';clear h'
  obtain⟨_,_,d,_,_,_,_,_,h6,h7⟩:=hT.at (t:=t) (by rw[hk];simp)
  rw[hk,DescOk]at h7
  subst h7
  split at h
  ·rename_i k1
   split at h
   ·refine .of_pure (rd:=[]) h.2 fun hg G N a w s' hs ha _=>?_
    have hx:=hv hg G w _ (ev_vr hs x (otm o mx_ ha))
    have hb:=hl (gd_out h.1 hg) hg G N a w s' hs (fun y hy=>otm o (mlo y hy) ha)
    obtain⟨A,n,cap,hux⟩:∃A n cap,a.eval x=.slice A n cap:=by
     generalize a.eval x=ux at hx
     cases hx<;>exact⟨_,_,_,rfl⟩
    have hel:P.elem t=e:=by simp[Program.elem,h6]
    have hu':P.underlying t=some (.slice (P.elem t)):=by rw[hel];exact h6
    have e0:∀(k:IntKind),a.eval (.const (.int k 0))=.int k 0:=fun _=>rfl
    refine⟨.slice (if(0:Nat)=0 then A else A.map (·.add (0 * (T e).size))) 0 0,?_,.snil _⟩
    rcases hb with⟨rfl,_⟩|⟨y,k',i,rfl,hy,h0,hi⟩
    ·simp only[execOp,ho,hux,Option.map_none,Option.map_some,e0,Sem.run_bind,run_sliceAt_slice w t _ _ _ _ hu',run_slice_hm w t A n cap hu' _ _ 0 0 (by omega) (by omega) (by omega),hel,hT.sizeOf ht w,Result.andThen_ok,Sem.run_pure,sliced]
     rfl
    ·have hi0:i=0:=by omega
     subst hi0
     simp only[execOp,ho,hux,hy,Option.map_none,Option.map_some,e0,Sem.run_bind,run_sliceAt_slice w t _ _ _ _ hu',run_slice_lhm w t A n cap hu' _ _ _ 0 0 0 (by omega) (by omega) (by omega) (by omega),hel,hT.sizeOf ht w,Result.andThen_ok,Sem.run_pure,sliced]
     rfl
   ·exact h.elim
  ·exact h.elim
 ·exact h.elim
theorem esK_out {s:St} {v:V} {K:List (V × V)→Heap→Prop} (hK:esK s.h v K):∃es rd,K es rd∧RdOk s rd∧∀(G:Gh) (N:Nat) (a:Act) (w:World) (s':St),Sim G N s' a w→(∀b ob,(b,ob)∈rd→hget s'.h b=ob)→∀u,vr G w v u →
  (es=[]∧u=.map none)∨∃(c:Nat) (arr:Array MapEntry) (clk:Nat),u=.map (some c)∧w.heap[c]? = some (.map arr clk)∧EntOk arr clk∧es.length=arr.toList.length ∧
   ∀(j:Nat) (kv:V × V) (e:MapEntry),es[j]? = some kv→arr.toList[j]? = some e→vr G w kv.1 e.key∧vr G w kv.2 e.val:=by
 unfold esK at hK
 split at hK
 ·exact⟨[],[],hK,.nil _,fun G N a w s' hs hr u hu=>by cases hu;exact .inl ⟨rfl,rfl⟩⟩
 ·rename_i fr es
  refine⟨es,[],hK,.nil _,fun G N a w s' hs hr u hu=>?_⟩
  cases hu with
  | imap _ _ c arr clk hc hok hl hk hv=>exact .inr ⟨c,arr,clk,rfl,rd_map.1 hc.1,hok,hl,fun j kv e h1 h2=>⟨hk j kv e h1 h2,hv j kv e h1 h2⟩⟩
 ·rename_i b
  split at hK
  ·rename_i es hb
   refine⟨es,_,hK,.cons (.inl hb) (.nil _),fun G N a w s' hs hr u hu=>?_⟩
   cases hu with
   | mapp _ c hι=>
    obtain⟨c',arr,clk,h1,h2,h3,h4,h5⟩:MapH G w b es:=hs.hr.own b (.map es) (hr b (some (.map es)) (by simp))
    rw[hι]at h1
    obtain rfl:c=c':=Option.some.inj h1
    exact .inr ⟨c,arr,clk,rfl,h2,h3,h4,h5⟩
  ·exact hK.elim
 ·exact hK.elim
theorem ex_len (hT:TabOk P T) (hs0:∃G N a w,Sim G N s a w) {c:Call} (ho:o.op=.call c) (hc:c.callee=.builtin .len) (h:exec T s g o K):ExOk P s g o K:=by
 simp only[exec,ho,hc]at h
 split at h
 ·rename_i x t hx ht
  obtain⟨v,h',hv⟩:=argK_out h;clear h;have h:=h';clear h'
  have hxm:x∈o.op.operands:=by rw[ho];simp only[Op.operands,Call.operands,hc];have:x∈c.args.toList:=(by simp[hx]);simpa using this
  have hargs:c.args=#[x]:=by apply Array.ext';simp[hx]
  have htys:c.argTypes=#[t]:=by apply Array.ext';simp[ht]
  have run:∀(a:Act) (w:World),(execOp a.eval o).run P w=((Builtin.len_ #[t] o.type #[a.eval x]).run P w).andThen fun v w=>.ok (.value v) w:=by
   intro a w
   simp[execOp,ho,resolve,hc,hargs,htys,invoke,builtin]
  have prem:∀{p:Prop},((g=none∨g=some true)→p)→gd g p:=by
   intro p hp
   unfold gd
   split
   ·exact hp (.inl rfl)
   ·rename_i gb;intro hgb;subst hgb;exact hp (.inr rfl)
  split at h
  ·rename_i e fr sz xs hk
   obtain⟨_,_,d,_,_,_,_,_,h6,h7⟩:=hT.at (t:=t) (by rw[hk];simp)
   rw[hk,DescOk]at h7
   subst h7
   refine .of_pure (rd:=[]) (h (prem fun hg=>?_)) fun hg G N a w s' hs ha _=>?_
   ·obtain⟨G,N,a,w,hs⟩:=hs0
    have hx:=hv hg G w _ (ev_vr hs x (fun _ _=>rfl))
    cases hux:a.eval x<;>rw[hux]at hx<;>cases hx
    omega
   have hx:=hv hg G w _ (ev_vr hs x (otm o hxm ha))
   generalize hux:a.eval x=ux at hx
   cases hx with
   | sl _ _ _ A cap us hcap hm hA hrow hc hval=>exact⟨_,by simp[run,hux,Builtin.len_,run_underlying h6,goInt],.int _ _⟩
  ·rename_i e b sz row n hk
   obtain⟨_,_,d,_,_,_,_,_,h6,h7⟩:=hT.at (t:=t) (by rw[hk];simp)
   rw[hk,DescOk]at h7
   subst h7
   refine .of_pure (rd:=[]) (h (prem fun hg=>?_)) fun hg G N a w s' hs ha _=>?_
   ·obtain⟨G,N,a,w,hs⟩:=hs0
    have hx:=hv hg G w _ (ev_vr hs x (fun _ _=>rfl))
    cases hux:a.eval x<;>rw[hux]at hx<;>cases hx
    ·omega
    ·unfold maxLen;omega
   have hx:=hv hg G w _ (ev_vr hs x (otm o hxm ha))
   obtain⟨A,cap,hux⟩:∃A cap,a.eval x=.slice A n cap:=by
    generalize a.eval x=ux at hx
    cases hx<;>exact⟨_,_,rfl⟩
   exact⟨_,by simp[run,hux,Builtin.len_,run_underlying h6,goInt],.int _ _⟩
  ·rename_i e hk
   obtain⟨_,_,d,_,_,_,_,_,h6,h7⟩:=hT.at (t:=t) (by rw[hk];simp)
   rw[hk,DescOk]at h7
   subst h7
   refine .of_pure (rd:=[]) h fun hg G N a w s' hs ha _=>?_
   have hx:=hv hg G w _ (ev_vr hs x (otm o hxm ha))
   generalize hux:a.eval x=ux at hx
   cases hx with
   | snil A=>exact⟨_,by simp[run,hux,Builtin.len_,run_underlying h6,goInt],.int _ _⟩
  ·rename_i b hk
   obtain⟨_,_,d,_,_,_,_,_,h6,h7⟩:=hT.at (t:=t) (by rw[hk];simp)
   rw[hk,DescOk]at h7
   subst h7
   refine .of_pure (rd:=[]) h fun hg G N a w s' hs ha _=>?_
   have hux:=VR.str_iff.1 (hv hg G w _ (ev_vr hs x (otm o hxm ha)))
   exact⟨_,by simp[run,hux,Builtin.len_,run_underlying h6,goInt],.int _ _⟩
  ·rename_i k1 e1 hk
   obtain⟨_,_,d,_,_,_,_,_,h6,h7⟩:=hT.at (t:=t) (by rw[hk];simp)
   rw[hk,DescOk]at h7
   subst h7
   obtain⟨es,rd,hK,hrd,hes⟩:=esK_out h
   refine .of_pure (rd:=rd) hK (fun hg G N a w s' hs ha hr=>?_) hrd
   have hx:=hv hg G w _ (ev_vr hs x (otm o hxm ha))
   rcases hes G N a w s' hs hr _ hx with⟨rfl,hux⟩|⟨c,arr,clk,hux,hh,_,hl,_⟩
   ·exact⟨_,by simp[run,hux,Builtin.len_,run_underlying h6,goInt],.int _ _⟩
   ·refine⟨.int .i64 es.length,?_,.int _ _⟩
    have:(Builtin.len_ #[t] o.type #[.map (some c)]).run P w=.ok (.int .i64 arr.size) w:=by
     simp[Builtin.len_,run_underlying h6,Go.MapKept.run_getObj_map hh,goInt]
    rw[run,hux,this,hl]
    simp
  ·exact h.elim
 ·exact h.elim
theorem ex_cap (hT:TabOk P T) {c:Call} (ho:o.op=.call c) (hc:c.callee=.builtin .cap) (h:exec T s g o K):ExOk P s g o K:=by
 simp only[exec,ho,hc]at h
 split at h
 ·rename_i x t hx ht
  obtain⟨v,h',hv⟩:=argK_out h;clear h;have h:=h';clear h'
  have hargs:c.args=#[x]:=by apply Array.ext';simp[hx]
  have hxm:x∈o.op.operands:=by rw[ho];simp[Op.operands,Call.operands,hc,hargs]
  have htys:c.argTypes=#[t]:=by apply Array.ext';simp[ht]
  split at h
  ·rename_i e hk
   obtain⟨_,_,d,_,_,_,_,_,h6,h7⟩:=hT.at (t:=t) (by rw[hk];simp)
   rw[hk,DescOk]at h7
   subst h7
   refine .of_pure (rd:=[]) h fun hg G N a w s' hs ha _=>?_
   have hx:=hv hg G w _ (ev_vr hs x (otm o hxm ha))
   generalize hux:a.eval x=ux at hx
   cases hx with
   | snil A=>exact⟨_,by simp[execOp,ho,resolve,hc,hargs,htys,invoke,builtin,hux,Builtin.cap_,run_underlying h6,goInt],.int _ _⟩
  ·rename_i e b sz row n hk
   split at h
   ·rename_i fr ex ty sz' rows hb
    obtain⟨⟨rfl,hpos,hn0,rfl⟩,h⟩:=h
    obtain⟨_,_,d,_,_,_,_,_,h6,h7⟩:=hT.at (t:=t) (by rw[hk];simp)
    rw[hk,DescOk]at h7
    subst h7
    refine .of_pure (rd:=[(b,some (.arr fr true ty sz' rows))]) h (fun hg G N a w s' hs ha hr=>?_) (.cons (.inl hb) (.nil _))
    have hx:=hv hg G w _ (ev_vr hs x (otm o hxm ha))
    have hb':hget s'.h b=some (.arr fr true ty sz' rows):=hr b _ (by simp)
    obtain⟨hro,hown⟩:=hs.hr.own b (.arr fr true ty sz' rows) hb'
    generalize hux:a.eval x=ux at hx
    cases hx with
    | osl _ _ _ _ c2 cap m hc2 hz he hn hm=>
     rcases hown with⟨h1,_⟩|⟨c3,cs,e1,hheap,hln,hex,_⟩
     ·rw[h1]at hc2;cases hc2
     rw[hc2]at e1;cases e1
     have hcsz:cs.size=m:=by
      have:csz w c2=some cs.size:=by unfold csz;rw[hheap]
      rw[this]at hz;exact Option.some.inj hz
     have hl:=hex rfl
     rw[flatten_cells hro,hcsz,← he]at hl
     have hcap:rows.length=row + cap:=Nat.eq_of_mul_eq_mul_right hpos hl
     exact⟨_,by simp[execOp,ho,resolve,hc,hargs,htys,invoke,builtin,hux,Builtin.cap_,run_underlying h6,goInt];omega,.int _ _⟩
    | oslz=>omega
   ·exact h.elim
  ·exact h.elim
 ·exact h.elim
theorem ex_minmax {c:Call} {b:Builtin} (hb:b=.min∨b=.max) (ho:o.op=.call c) (hc:c.callee=.builtin b) (h:exec T s g o K):ExOk P s g o K:=by
 rcases hb with rfl|rfl
 all_goals
  simp only[exec,ho,hc]at h
  split at h
  ·rename_i x y hxy
   obtain⟨v,h',hv⟩:=argK_out h;clear h;have h:=h';clear h'
   obtain⟨v2,h',hv2⟩:=argK_out h;clear h;have h:=h';clear h'
   have hargs:c.args=#[x,y]:=by apply Array.ext';simp[hxy]
   have hxm:x∈o.op.operands:=by rw[ho];simp[Op.operands,Call.operands,hc,hargs]
   have hym:y∈o.op.operands:=by rw[ho];simp[Op.operands,Call.operands,hc,hargs]
   split at h
   ·refine .of_pure (rd:=[]) h fun hg G N a w s' hs ha _=>?_
    have hx:=VR.int_iff.1 (hv hg G w _ (ev_vr hs x (otm o hxm ha)))
    have hy:=VR.int_iff.1 (hv2 hg G w _ (ev_vr hs y (otm o hym ha)))
    exact⟨_,by simp[execOp,ho,resolve,hc,hargs,invoke,builtin,hx,hy,run_min_int2,run_max_int2],.int _ _⟩
   ·exact h.elim
  ·exact h.elim
end
section
variable {P : Program} {T : Tab} {s : St} {g : Option Bool} {o : Oper} {K : OK}
theorem EvoA.vr {G G':Gh} {w w':World} (h:EvoA G w G' w') {v:V} {u:Value} (hv:vr G w v u):vr G' w' v u:=
 VR.mono (fun b c hb=>(h (b + 1)).ids b c (by omega) hb) (h 0).csz (fun _ _ _ hi=>(h 0).imm hi) hv
theorem EvoA.trans {G G' G'':Gh} {w w' w'':World} (h:EvoA G w G' w') (k:EvoA G' w' G'' w''):EvoA G w G'' w'':=fun b=>(h b).trans (k b)
theorem Holds.keep {G G':Gh} {w w':World} {b:Nat} {fr ex:Bool} {ty:TypeId} {vs:List V} (h:Holds G w b fr ex ty vs) (he:EvoA G w G' w') (hc:∀c,G.ι b=some c→w'.heap[c]? = w.heap[c]?):Holds G' w' b fr ex ty vs:=by
 obtain⟨c,cs,h1,h2,h3,h4,h5,h6,h7⟩:=h
 refine⟨c,cs,(he (b + 1)).ids b c (by omega) h1,(hc c h1).trans h2,h3,h4,fun hf=>by rw[(he 0).B];exact h5 hf,fun j v hv=>?_,h7⟩
 obtain⟨u,hu,h1,hr⟩:=h6 j v hv
 exact⟨u,hu,h1,he.vr hr⟩
theorem MapH.to {G G':Gh} {w w':World} {b b':Nat} {es es':List (V × V)} (h:MapH G w b es) (hι:∀c,G.ι b=some c→G'.ι b'=some c) (hc:∀c,G.ι b=some c→w'.heap[c]? = w.heap[c]?) (hl:es'.length=es.length)
  (hr:∀(j:Nat) (kv kv':V × V),es[j]? = some kv→es'[j]? = some kv'→(∀u,vr G w kv.1 u→vr G' w' kv'.1 u)∧∀u,vr G w kv.2 u→vr G' w' kv'.2 u):MapH G' w' b' es':=by
 obtain⟨c,arr,clk,h1,h2,h3,h4,h5⟩:=h
 refine⟨c,arr,clk,hι c h1,(hc c h1).trans h2,h3,hl.trans h4,fun j kv' e hj he=>?_⟩
 have hlt:j < es.length:=by rw[← hl];exact(List.getElem?_eq_some_iff.1 hj).1
 obtain⟨q1,q2⟩:=h5 j _ e (List.getElem?_eq_getElem hlt) he
 obtain⟨r1,r2⟩:=hr j _ kv' (List.getElem?_eq_getElem hlt) hj
 exact⟨r1 _ q1,r2 _ q2⟩
theorem IterH.to {G G':Gh} {w w':World} {b b':Nat} {cur cur':Option (V × V)} {rest rest':List (V × V)} (h:IterH G w b cur rest) (hι:∀c,G.ι b=some c→G'.ι b'=some c) (hc:∀c,G.ι b=some c→w'.heap[c]? = w.heap[c]?) (hi:∀fr a u,imm G w fr a u→imm G' w' fr a u) (hl:rest'.length=rest.length)
  (hr:∀(j:Nat) (kv kv':V × V),rest[j]? = some kv→rest'[j]? = some kv'→(∀u,vr G w kv.1 u→vr G' w' kv'.1 u)∧∀u,vr G w kv.2 u→vr G' w' kv'.2 u)
  (hcur:∀kv',cur'=some kv'→∃kv,cur=some kv∧(∀u,vr G w kv.1 u→vr G' w' kv'.1 u)∧∀u,vr G w kv.2 u→vr G' w' kv'.2 u):IterH G' w' b' cur' rest':=by
 obtain⟨c,h1,h⟩:=h
 refine⟨c,hι c h1,?_⟩
 rcases h with⟨rfl,rfl,h2⟩|⟨cm,arr,clk,fr,seen,idx,h2,h3,h4,h5,h6,h7,h8,h9⟩
 ·refine .inl ⟨List.eq_nil_of_length_eq_zero (by simpa using hl),?_,(hc c h1).trans h2⟩
  cases cur' with
  | none=>rfl
  | some kv'=>obtain⟨kv,hkv,_⟩:=hcur kv' rfl;cases hkv
 ·refine .inr ⟨cm,arr,clk,fr,seen,idx,(hc c h1).trans h2,hi _ _ _ h3,h4,h5,h6,hl.trans h7,fun k j kv' e hk hk' he=>?_,fun kv' hkv'=>?_⟩
  ·have hlt:k < rest.length:=by rw[← hl];exact(List.getElem?_eq_some_iff.1 hk').1
   obtain⟨q1,q2⟩:=h8 k j _ e hk (List.getElem?_eq_getElem hlt) he
   obtain⟨r1,r2⟩:=hr k _ kv' (List.getElem?_eq_getElem hlt) hk'
   exact⟨r1 _ q1,r2 _ q2⟩
  ·obtain⟨kv,hkv,r1,r2⟩:=hcur kv' hkv'
   obtain⟨j,e,q1,q2,q3,q4⟩:=h9 kv hkv
   exact⟨j,e,q1,q2,r1 _ q3,r2 _ q4⟩
theorem same_of {α:Type} {l:List α} {j:Nat} {a b:α} (h:l[j]? = some a) (h':l[j]? = some b):a=b:=Option.some.inj (h.symm.trans h')
theorem BlkOk.keep {G G':Gh} {w w':World} {b:Nat} {blk:Blk} (h:BlkOk G w b blk) (he:EvoA G w G' w') (hc:∀c,G.ι b=some c→w'.heap[c]? = w.heap[c]?) (hn:G.ι b=none→G'.ι b=none):BlkOk G' w' b blk:=by
 cases blk with
 | var fr ty cells=>exact Holds.keep h he hc
 | arr fr ex ty sz rows=>
  refine⟨h.1,?_⟩
  rcases h.2 with⟨h1,h2⟩|h2
  ·exact .inl ⟨hn h1,h2⟩
  ·exact .inr (Holds.keep h2 he hc)
 | loop N t ps asg body st pend=>
  obtain⟨c,r,h1,h2,h3,h4,h5,h6,h7,h8,h9⟩:=h
  exact⟨c,r,(he (b + 1)).ids b c (by omega) h1,(hc c h1).trans h2,h3,h4,h5,h6,h7,h8,fun i=>he.vr (h9 i)⟩
 | map es=>
  exact MapH.to h (fun c h1=>(he (b + 1)).ids b c (by omega) h1) hc rfl fun j kv kv' h1 h2=>by
   obtain rfl:=same_of h1 h2
   exact⟨fun _=>he.vr,fun _=>he.vr⟩
 | iter cur rest=>
  exact IterH.to h (fun c h1=>(he (b + 1)).ids b c (by omega) h1) hc (fun _ _ _ hi=>(he 0).imm hi) rfl (fun j kv kv' h1 h2=>by
   obtain rfl:=same_of h1 h2
   exact⟨fun _=>he.vr,fun _=>he.vr⟩) fun kv hkv=>⟨kv,hkv,fun _=>he.vr,fun _=>he.vr⟩
theorem hget_cons (b:Nat) (ob:Option Blk) (h:Heap) (b':Nat):hget ((b,ob) :: h) b'=if b=b' then ob else hget h b':=by
 by_cases e:b=b'
 ·subst e;simp[hget,Nat.beq_refl]
 ·have:Nat.beq b b'=false:=by
   cases hb:Nat.beq b b' with
   | false=>rfl
   | true=>exact absurd (Nat.eq_of_beq_eq_true hb) e
  simp[hget,this,e]
def Gh.with (G:Gh) (b:Nat) (c:Option Nat):Gh:={ G with ι:=fun i=>if i=b then c else G.ι i }
theorem Gh.with_self (G:Gh) (b:Nat) (c:Option Nat):(G.with b c).ι b=c:=by simp[Gh.with]
theorem Gh.with_other (G:Gh) {b b':Nat} (h:b' ≠ b) (c:Option Nat):(G.with b c).ι b'=G.ι b':=by simp[Gh.with,h]
theorem csz_alloc {w:World} {o:Obj} {c m:Nat} (h:csz w c=some m):csz (w.alloc o) c=some m:=by
 have hlt:c < w.heap.size:=by
  unfold csz at h
  split at h
  ·rename_i hc;exact(Array.getElem?_eq_some_iff.1 hc).1
  ·cases h
 unfold csz at h ⊢
 rw[Below.heap_alloc w o c hlt]
 exact h
theorem EvoA.alloc {G:Gh} {hp:Heap} {n:Nat} {w:World} (h:HR G hp n w) (o:Obj) (b:Nat) (hb:G.ι b=none):EvoA G w (G.with b (some w.heap.size)) (w.alloc o):=fun base=>
  ⟨rfl,rfl,rfl,by simp,rfl,fun _ hc=>hc,fun c' hc=>Below.heap_alloc _ _ _ (h.amb_lt _ hc),fun _ _ hm=>csz_alloc hm,
   fun b' c' _ hc=>by
    by_cases e:b'=b
    · subst e;rw[hb]at hc;cases hc
    · rw[Gh.with_other _ e];exact hc,
   fun c' hc _=>Below.heap_alloc _ _ _ hc,fun _ hc _=>.inl hc,fun b' c' hc hlt=>by
    by_cases e:b'=b
    · subst e;rw[Gh.with_self]at hc;cases hc;omega
    · rw[Gh.with_other _ e]at hc;exact⟨b',hc⟩⟩
theorem EvoA.drew {G:Gh} {w:World}:EvoA G w G w.drew:=fun base=>⟨rfl,rfl,rfl,Nat.le_refl _,rfl,fun _ h=>h,fun _ _=>rfl,fun _ _ h=>h,fun _ _ _ h=>h,fun _ _ _=>rfl,fun _ h _=>.inl h,fun b _ h _=>⟨b,h⟩⟩
theorem HR.alloc {G:Gh} {hp:Heap} {n:Nat} {w:World} (h:HR G hp n w) (o:Obj) (b:Nat) (hb:G.ι b=none) (blk:Blk)
  (hok:BlkOk (G.with b (some w.heap.size)) (w.alloc o) b blk):HR (G.with b (some w.heap.size)) ((b,some blk) :: hp) (max n (b + 1)) (w.alloc o):=by
 have he:=EvoA.alloc h o b hb
 refine⟨fun c hc=>by have:=h.amb_lt c hc;simp;omega,by have:=h.B_le;simp[Gh.with];omega,fun b' hb'=>?_,fun b' blk' hg=>?_,fun b1 b2 k1 k2 c h1 h2 h3 h4=>?_,fun b' blk' c hg hc=>?_,fun b' c hc=>?_,fun b' blk' hg=>?_,h.gl.evo (he 0)⟩
 ·rw[Gh.with_other _ (by omega)];exact h.dom b' (by omega)
 ·rw[hget_cons]at hg
  split at hg
  ·rename_i e;subst e;cases hg;exact hok
  ·rename_i e
   exact(h.own b' blk' hg).keep he (fun c hc=>Below.heap_alloc _ _ _ (h.lt b' c hc)) (fun hn=>by rw[Gh.with_other _ (Ne.symm e)];exact hn)
 ·rw[hget_cons]at h1 h2
  by_cases e1:b=b1<;>by_cases e2:b=b2
  ·omega
  ·subst e1
   rw[Gh.with_self]at h3;rw[Gh.with_other _ (Ne.symm e2)]at h4
   have:=h.lt b2 c h4
   cases h3;omega
  ·subst e2
   rw[Gh.with_self]at h4;rw[Gh.with_other _ (Ne.symm e1)]at h3
   have:=h.lt b1 c h3
   cases h4;omega
  ·rw[if_neg e1]at h1;rw[if_neg e2]at h2
   rw[Gh.with_other _ (Ne.symm e1)]at h3;rw[Gh.with_other _ (Ne.symm e2)]at h4
   exact h.inj b1 b2 k1 k2 c h1 h2 h3 h4
 ·rw[hget_cons]at hg
  by_cases e:b=b'
  ·subst e
   rw[Gh.with_self]at hc
   cases hc
   intro hamb
   have:=h.amb_lt _ hamb
   omega
  ·rw[if_neg e]at hg
   rw[Gh.with_other _ (Ne.symm e)]at hc
   exact h.apart b' blk' c hg hc
 ·by_cases e:b'=b
  ·subst e;rw[Gh.with_self]at hc;cases hc;simp
  ·rw[Gh.with_other _ e]at hc
   have:=h.lt b' c hc
   simp;omega
 ·rw[hget_cons]at hg
  split at hg
  ·omega
  ·have:=h.hdom b' blk' hg;omega
theorem holds_new' {G:Gh} {hp:Heap} {n:Nat} {w:World} (h:HR G hp n w) (b:Nat) (hb:G.ι b=none) (ex:Bool) (ty:TypeId) (vs:List V) (us:Array Value) (hl:vs.length≤us.size) (hex:ex=true→vs.length=us.size)
  (hv:∀(j:Nat) (v:V),vs[j]? = some v→∃u:Value,us[j]? = some u∧u.oneCell'=true∧vr G w v u) (hall:∀(j:Nat) (u:Value),us[j]? = some u→u.oneCell'=true) :
  Holds (G.with b (some w.heap.size)) (w.alloc (.cells us ty)) b true ex ty vs:=by
 have he:=EvoA.alloc h (.cells us ty) b hb
 refine⟨w.heap.size,us,Gh.with_self _ _ _,by show(w.heap.push _)[w.heap.size]? = _;simp,hl,hex,fun _=>h.B_le,fun j v hj=>?_,hall⟩
 obtain⟨u,hu,h1,hr⟩:=hv j v hj
 exact⟨u,hu,h1,he.vr hr⟩
theorem vrs.get {G:Gh} {w:World} {vs:List V} {us:List Value} (h:vrs G w vs us) (h1:∀u∈us,u.oneCell'=true):∀(j:Nat) (v:V),vs[j]? = some v→∃u:Value,us[j]? = some u∧u.oneCell'=true∧vr G w v u:=by
 intro j v hj
 have hlt:j < us.length:=by rw[← h.1];exact(List.getElem?_eq_some_iff.1 hj).1
 exact⟨us[j],List.getElem?_eq_getElem hlt,h1 _ (List.getElem_mem hlt),h.2 j v _ hj (List.getElem?_eq_getElem hlt)⟩
theorem holds_new {G:Gh} {hp:Heap} {n:Nat} {w:World} (h:HR G hp n w) (b:Nat) (hb:G.ι b=none) (ty:TypeId) (vs:List V) (us:Array Value) (hv:vrs G w vs us.toList) (h1:∀u∈us.toList,u.oneCell'=true) :
  Holds (G.with b (some w.heap.size)) (w.alloc (.cells us ty)) b true true ty vs:=
 holds_new' h b hb true ty vs us (by have:=hv.1;simp at this;omega) (fun _=>by have:=hv.1;simpa using this) (fun j v hj=>by simpa using hv.get h1 j v hj) (fun j u hj=>h1 u (Array.mem_toList_iff.2 (Array.mem_of_getElem? hj)))
theorem vrs.one {G:Gh} {w:World} {vs:List V} {us:List Value} (h:vrs G w vs us) (h1:∀x∈vs,x.one=true):∀u∈us,u.oneCell'=true:=by
 intro u hu
 obtain⟨j,hj,rfl⟩:=List.mem_iff_getElem.1 hu
 have hj':j < vs.length:=by rw[h.1];exact hj
 exact VR.one' (h1 _ (List.getElem_mem hj')) (h.2 j _ _ (List.getElem?_eq_getElem hj') (List.getElem?_eq_getElem hj))
theorem csz_setRow {w:World} {c:Nat} {cur new:Array Value} {t:TypeId} {fr:Nat × Nat} (hg:w.heap[c]? = some (.cells cur t fr)) (hs:new.size=cur.size) {c' m:Nat} (h:csz w c'=some m):csz (w.setRow c new) c'=some m:=by
 unfold csz at h ⊢
 by_cases e:c'=c
 ·subst e
  rw[setRow_heap w c' cur new t fr hg]
  rw[hg]at h
  simpa[hs]using h
 ·rw[setRow_other w c c' new e];exact h
theorem EvoA.setRow {G:Gh} {w:World} {c:Nat} {cur new:Array Value} {t:TypeId} {fr:Nat × Nat} (hg:w.heap[c]? = some (.cells cur t fr)) (hs:new.size=cur.size) (ha:¬ G.amb c) {b:Nat} (hb:G.ι b=some c):EvoA G w G (w.setRow c new):=fun base=>
  ⟨rfl,rfl,rfl,by simp,rfl,fun _ hc=>hc,fun c' hc=>setRow_other _ _ _ _ (fun e=>ha (e▸hc)),fun _ _ hm=>csz_setRow hg hs hm,fun _ _ _ hc=>hc,
   fun c' _ hn=>setRow_other _ _ _ _ (fun e=>hn b (e▸hb)),fun _ h _=>.inl h,fun b _ h _=>⟨b,h⟩⟩
theorem HR.setRow {G:Gh} {hp:Heap} {n:Nat} {w:World} (h:HR G hp n w) {b c:Nat} {blk:Blk} (hb:hget hp b=some blk) (hc:G.ι b=some c) {cur new:Array Value} {t:TypeId} {fr:Nat × Nat}
  (hg:w.heap[c]? = some (.cells cur t fr)) (hs:new.size=cur.size) (blk':Blk) (hok:BlkOk G (w.setRow c new) b blk'):HR G ((b,some blk') :: hp) n (w.setRow c new):=by
 have he:EvoA G w G (w.setRow c new):=EvoA.setRow hg hs (h.apart b blk c hb hc) hc
 refine⟨fun c hc=>by have:=h.amb_lt c hc;simpa using this,by simpa using h.B_le,h.dom,fun b' k hk=>?_,fun b1 b2 k1 k2 c' h1 h2 h3 h4=>?_,fun b' k c' hk hc'=>?_,fun b' c' hc'=>by simpa using h.lt b' c' hc',fun b' k hk=>?_,h.gl.evo (he 0)⟩
 ·rw[hget_cons]at hk
  split at hk
  ·rename_i e;subst e;cases hk;exact hok
  ·rename_i e
   refine(h.own b' k hk).keep he (fun c' hc'=>setRow_other _ _ _ _ ?_) (fun hn=>hn)
   rintro rfl
   exact e (h.inj b b' _ _ _ hb hk hc hc')
 ·have g1:∃k,hget hp b1=some k:=by
   rw[hget_cons]at h1
   split at h1
   ·rename_i e;subst e;exact⟨_,hb⟩
   ·exact⟨_,h1⟩
  have g2:∃k,hget hp b2=some k:=by
   rw[hget_cons]at h2
   split at h2
   ·rename_i e;subst e;exact⟨_,hb⟩
   ·exact⟨_,h2⟩
  obtain⟨_,g1⟩:=g1
  obtain⟨_,g2⟩:=g2
  exact h.inj b1 b2 _ _ c' g1 g2 h3 h4
 ·rw[hget_cons]at hk
  split at hk
  ·rename_i e;subst e;exact h.apart b blk c' hb hc'
  ·exact h.apart b' k c' hk hc'
 ·rw[hget_cons]at hk
  split at hk
  ·rename_i e;subst e;exact h.hdom b blk hb
  ·exact h.hdom b' k hk
theorem constsK_out:∀{vs:List Value} {K:List V→Prop},constsK vs K→∃cs,K cs∧cs.length=vs.length∧(∀x∈cs,x.one=true)∧∀(G:Gh) (w:World),vrs G w cs vs
 | [],K,h=>⟨[],h,rfl,by simp,fun G w=>⟨rfl,by simp⟩⟩
 | v :: r,K,h=>by
  unfold constsK at h
  split at h
  ·rename_i ho
   rw[forceV_eq]at h
   obtain⟨cs,hK,hl,h1,hv⟩:=constsK_out h
   refine⟨_ :: cs,hK,by simp[hl],by rintro x hx;rcases List.mem_cons.1 hx with rfl|hx;exact ho;exact h1 x hx,fun G w=>⟨by simp[hl],fun j v' u h1 h2=>?_⟩⟩
   cases j with
   | zero=>simp at h1 h2;subst h1;subst h2;exact const_vr _ _ _ _
   | succ j=>exact(hv G w).2 j v' u (by simpa using h1) (by simpa using h2)
  ·exact h.elim
theorem ex_alloc (hT:TabOk P T) {e:TypeId} (ho:o.op=.alloc e) (h:exec T s g o K):ExOk P s g o K:=by
 simp only[exec,ho]at h
 split at h
 ·exact h.elim
 obtain⟨h',ht⟩:=szK_out h;clear h;have h:=h';clear h'
 obtain⟨cs,h',hl,h1,hv⟩:=constsK_out h;clear h;have h:=h';clear h'
 split at h
 ·rename_i hlen
  rw[forceN_eq]at h
  refine⟨_,_,_,_,h,RdOk.new (.nil _),fun _=>⟨by omega,fun G N a w s' hs ha hr hn=>?_⟩,fun hg=>absurd rfl hg⟩
  obtain⟨i,z,d,h1',h2',_,h4',h5',_,_⟩:=hT.at ht
  have hi:=hn s.nx (Nat.le_refl _) (by omega)
  have hvr:vrs G w cs z.cells.toList:=by rw[h5'];exact hv G w
  have hok:=holds_new hs.hr s.nx hi e cs z.cells hvr (hvr.one h1)
  refine⟨.pointer (some ⟨w.heap.size,0,none⟩),w.alloc (.cells z.cells e),G.with s.nx (some w.heap.size),.inl ?_,.ptr _ _ _ (Gh.with_self _ _ _),HR.alloc hs.hr _ _ hi (.var true e cs) hok,fun b hb=>Gh.with_other _ (by omega) _,EvoA.alloc hs.hr _ _ hi⟩
  simp[execOp,ho,Instr.alloc,zeroValue,typeInfo,h1',h4',newVar,newRow]
 ·exact h.elim
theorem ex_box (hT:TabOk P T) {e:TypeId} {x:Operand} (ho:o.op=.box e x) (h:exec T s g o K):ExOk P s g o K:=by
 simp only[exec,ho]at h
 split at h
 ·exact h.elim
 obtain⟨h',ht⟩:=szK_out h;clear h;have h:=h';clear h'
 obtain⟨cs,h',hl,h1,hv⟩:=cellsK_out h;clear h;have h:=h';clear h'
 rw[forceN_eq]at h
 refine⟨_,_,_,_,h,RdOk.new (.nil _),fun _=>⟨by omega,fun G N a w s' hs ha hr hn=>?_⟩,fun hg=>absurd rfl hg⟩
 have hi:=hn s.nx (Nat.le_refl _) (by omega)
 have hx:=ev_vr hs x (otm o (by simp[ho,Op.operands]) ha)
 have hok:=holds_new hs.hr s.nx hi e cs (a.eval x).cells (hv G w _ hx) ((hv G w _ hx).one h1)
 refine⟨.pointer (some ⟨w.heap.size,0,none⟩),w.alloc (.cells (a.eval x).cells e),G.with s.nx (some w.heap.size),.inl ?_,.ptr _ _ _ (Gh.with_self _ _ _),HR.alloc hs.hr _ _ hi (.var true e cs) hok,fun b hb=>Gh.with_other _ (by omega) _,EvoA.alloc hs.hr _ _ hi⟩
 simp[execOp,ho,Instr.box,newVar,newRow]
theorem vrs.take {G:Gh} {w:World} {vs:List V} {us:List Value} (h:vrs G w vs us) (n:Nat):vrs G w (vs.take n) (us.take n):=by
 refine⟨by simp[h.1],fun j v u h1 h2=>?_⟩
 rw[List.getElem?_take]at h1 h2
 split at h1
 ·rename_i hj;rw[if_pos hj]at h2;exact h.2 j v u h1 h2
 ·cases h1
theorem vrs.drop {G:Gh} {w:World} {vs:List V} {us:List Value} (h:vrs G w vs us) (n:Nat):vrs G w (vs.drop n) (us.drop n):=by
 refine⟨by simp[h.1],fun j v u h1 h2=>?_⟩
 rw[List.getElem?_drop]at h1 h2
 exact h.2 _ v u h1 h2
theorem vrs.append {G:Gh} {w:World} {vs vs':List V} {us us':List Value} (h:vrs G w vs us) (h':vrs G w vs' us'):vrs G w (vs ++ vs') (us ++ us'):=by
 refine⟨by simp[h.1,h'.1],fun j v u h1 h2=>?_⟩
 rcases Nat.lt_or_ge j vs.length with hj|hj
 ·rw[List.getElem?_append_left hj]at h1
  rw[List.getElem?_append_left (by rw[← h.1];exact hj)]at h2
  exact h.2 j v u h1 h2
 ·rw[List.getElem?_append_right hj]at h1
  rw[List.getElem?_append_right (by rw[← h.1];exact hj),← h.1]at h2
  exact h'.2 _ v u h1 h2
theorem EvoA.vrs {G G':Gh} {w w':World} (h:EvoA G w G' w') {vs:List V} {us:List Value} (hv:vrs G w vs us):vrs G' w' vs us:=⟨hv.1,fun j v u h1 h2=>h.vr (hv.2 j v u h1 h2)⟩
end
section
variable {P : Program} {T : Tab} {s : St} {g : Option Bool} {o : Oper} {K : OK}
theorem splice_get {α:Type} (l m:List α) (o:Nat) (h:o + m.length≤l.length) (j:Nat) :
  (l.take o ++ m ++ l.drop (o + m.length))[j]? = if j < o then l[j]? else if j < o + m.length then m[j - o]? else l[j]?:=by
 have ho:(l.take o).length=o:=by simp;omega
 by_cases h1:j < o
 ·rw[if_pos h1,List.append_assoc,List.getElem?_append_left (by omega),List.getElem?_take_of_lt h1]
 ·rw[if_neg h1,List.append_assoc,List.getElem?_append_right (by omega),ho]
  by_cases h2:j < o + m.length
  ·rw[if_pos h2,List.getElem?_append_left (by omega)]
  ·rw[if_neg h2,List.getElem?_append_right (by omega),List.getElem?_drop]
   congr 1
   omega
theorem Holds.splice {G:Gh} {w:World} {b:Nat} {fr ex:Bool} {ty:TypeId} {F:List V} {c:Nat} {cs:Array Value} (h:Holds G w b fr ex ty F) (hc:G.ι b=some c) (hh:w.heap[c]? = some (.cells cs ty (0,0)))
  (ha:¬ G.amb c) {o:Nat} {news:List V} {us:List Value} (hn:vrs G w news us) (hn1:∀u∈us,u.oneCell'=true) (ho:o + news.length≤F.length) :
  Holds G (w.setRow c (cs.toList.take o ++ us ++ cs.toList.drop (o + us.length)).toArray) b fr ex ty (F.take o ++ news ++ F.drop (o + news.length)):=by
 obtain⟨c',cs',h1,h2,h3,h4,h5,h6,h7⟩:=h
 rw[hc]at h1;cases h1
 rw[hh]at h2;cases h2
 have hl:us.length=news.length:=hn.1.symm
 have hsz:(cs.toList.take o ++ us ++ cs.toList.drop (o + us.length)).toArray.size=cs.size:=by simp;omega
 have he:EvoA G w G (w.setRow c (cs.toList.take o ++ us ++ cs.toList.drop (o + us.length)).toArray):=EvoA.setRow hh hsz ha hc
 have hF:(F.take o ++ news ++ F.drop (o + news.length)).length=F.length:=by simp;omega
 refine⟨c,_,hc,setRow_heap _ _ _ _ _ _ hh,by rw[hF,hsz];exact h3,fun hex=>by rw[hF,hsz];exact h4 hex,h5,fun j v hv=>?_,fun j u hu=>?_⟩
 rotate_left
 ·have hm:=Array.mem_of_getElem? hu
  simp only[List.mem_toArray,List.mem_append]at hm
  rcases hm with(hm|hm)|hm
  ·obtain⟨i,hi,rfl⟩:=List.mem_iff_getElem.1 (List.mem_of_mem_take hm)
   exact h7 i _ (by simp)
  ·exact hn1 u hm
  ·obtain⟨i,hi,rfl⟩:=List.mem_iff_getElem.1 (List.mem_of_mem_drop hm)
   exact h7 i _ (by simp)
 rw[splice_get _ _ _ ho]at hv
 have hget:∀j,(cs.toList.take o ++ us ++ cs.toList.drop (o + us.length)).toArray[j]? = if j < o then cs[j]? else if j < o + us.length then us[j - o]? else cs[j]?:=by
  intro j
  rw[List.getElem?_toArray,splice_get _ _ _ (by simp;omega)]
  simp
 rw[hget]
 split at hv
 ·rename_i hj
  rw[if_pos hj]
  obtain⟨u,hu,hone,hr⟩:=h6 j v hv
  exact⟨u,hu,hone,he.vr hr⟩
 ·rename_i hj
  rw[if_neg hj]
  split at hv
  ·rename_i hj2
   rw[if_pos (by omega)]
   have hlt:j - o < us.length:=by omega
   exact⟨us[j - o],List.getElem?_eq_getElem hlt,hn1 _ (List.getElem_mem hlt),he.vr (hn.2 _ v _ hv (List.getElem?_eq_getElem hlt))⟩
  ·rename_i hj2
   rw[if_neg (by omega)]
   obtain⟨u,hu,hone,hr⟩:=h6 j v hv
   exact⟨u,hu,hone,he.vr hr⟩
theorem storeAt_run (hT:TabOk P T) {t:TypeId} (ht:(T t).k ≠ .other) {w:World} {c o:Nat} {cs:Array Value} {ty:TypeId} {u:Value} (hh:w.heap[c]? = some (.cells cs ty (0,0))) (hn:u.cells.toList.length=(T t).size)
  (ho:o + u.cells.toList.length≤cs.size) (h1:∀x∈u.cells.toList,x.oneCell'=true) :
  (Instr.storeAt t (.pointer (some ⟨c,o,none⟩)) u).run P w=.ok () (w.setRow c (cs.toList.take o ++ u.cells.toList ++ cs.toList.drop (o + u.cells.toList.length)).toArray):=by
 have hst:=run_storeCells_at P c o ty u.cells.toList 0 cs w hh (by omega) h1
 have hn':u.cells.size=(T t).size:=by simpa using hn
 simp only[Instr.storeAt,Instr.sureAddr,storeVar,Sem.run_bind,Sem.run_pure,Result.andThen_ok,hT.sizeOf ht,hn',ne_eq,not_true_eq_false,if_false]
 simpa using hst
theorem flatten_set {rows:List (List V)} {sz row:Nat} {r r':List V} (hs:∀x,x∈rows→x.length=sz) (hr:rows[row]? = some r) (hl:r'.length=sz) :
  (rows.set row r').flatten=rows.flatten.take (row * sz)++ r' ++ rows.flatten.drop (row * sz + sz):=by
 induction rows generalizing row with
 | nil=>simp at hr
 | cons x rows ih=>
  have hx:x.length=sz:=hs x (by simp)
  cases row with
  | zero=>
   rw[List.set_cons_zero,List.flatten_cons,List.flatten_cons,Nat.zero_mul,Nat.zero_add,List.take_zero,List.nil_append,← hx,List.drop_left]
  | succ row=>
   have hd:∀n,(x ++ rows.flatten).drop (x.length + n)=rows.flatten.drop n:=by intro n;rw[List.drop_append];simp
   rw[List.set_cons_succ,List.flatten_cons,ih (fun y hy=>hs y (by simp[hy])) (by simpa using hr),List.flatten_cons,Nat.succ_mul,
    show row * sz + sz=x.length + row * sz by omega,List.take_length_add_append,show x.length + row * sz + sz=x.length + (row * sz + sz)by omega,hd]
   simp[List.append_assoc,Nat.add_comm,hx]
theorem ex_store (hT:TabOk P T) {t:TypeId} {x y:Operand} (ho:o.op=.store t x y) (h:exec T s g o K):ExOk P s g o K:=by
 simp only[exec,ho]at h
 split at h
 ·exact h.elim
 obtain⟨h',ht⟩:=szK_out h;clear h;have h:=h';clear h'
 obtain⟨new,h',hl,h1,hv⟩:=cellsK_out h;clear h;have h:=h';clear h'
 split at h
 ·rename_i b c hx
  split at h
  ·rename_i fr ty cells hb
   obtain⟨hle,h'⟩:=putK_out h;clear h;have h:=h';clear h'
   refine⟨_,_,_,_,h,.cons (.inl hb) (.nil _),fun _=>⟨Nat.le_refl _,fun G N a w s' hs ha hr hn=>?_⟩,fun hg=>absurd rfl hg⟩
   have hvx:=ev_vr hs x (otm o (by simp[ho,Op.operands]) ha)
   have hvy:=hv G w _ (ev_vr hs y (otm o (by simp[ho,Op.operands]) ha))
   rw[hx]at hvx
   generalize hux:a.eval x=ux at hvx
   cases hvx with
   | ptr _ _ c' hc=>
    have hb':hget s'.h b=some (.var fr ty cells):=hr b _ (by simp)
    have hown:Holds G w b fr true ty cells:=hs.hr.own b (.var fr ty cells) hb'
    obtain⟨c2,cs,e1,hh,hlen,hex,_⟩:=id hown
    rw[hc]at e1;cases e1
    have hap:=hs.hr.apart b _ c' hb' hc
    have hul:(a.eval y).cells.toList.length=new.length:=hvy.1.symm
    have run:=storeAt_run hT ht (w:=w) (c:=c') (o:=c) (u:=a.eval y) hh (by omega) (by have:=hex rfl;omega) (hvy.one h1)
    have hok:=hown.splice hc hh hap (o:=c) hvy (hvy.one h1) (by omega)
    have hsz:(cs.toList.take c ++ (a.eval y).cells.toList ++ cs.toList.drop (c + (a.eval y).cells.toList.length)).toArray.size=cs.size:=by
     have:=hex rfl
     simp only[List.size_toArray,List.length_append,List.length_take,List.length_drop,Array.length_toList]at *
     omega
    refine⟨undef,_,G,.inr ⟨by simp only[execOp,ho,hux,Sem.run_bind,run,Result.andThen_ok,Sem.run_pure],rfl⟩,.any _,?_,fun _ _=>rfl,EvoA.setRow hh hsz hap hc⟩
    have:=HR.setRow hs.hr hb' hc hh hsz (.var fr ty (cells.take c ++ new ++ cells.drop (c + new.length))) hok
    exact⟨this.amb_lt,this.B_le,fun b hb=>this.dom b (by omega),this.own,this.inj,this.apart,this.lt,(fun b blk hb=>by have:=this.hdom b blk hb;omega),this.gl⟩
  ·exact h.elim
 ·rename_i b sz row c hx
  split at h
  ·rename_i fr ex ty sz' rows hb
   obtain⟨rfl,r,hrow,h⟩:=h
   obtain⟨hle,h'⟩:=putK_out h;clear h;have h:=h';clear h'
   refine⟨_,_,_,_,h,.cons (.inl hb) (.nil _),fun _=>⟨Nat.le_refl _,fun G N a w s' hs ha hr hn=>?_⟩,fun hg=>absurd rfl hg⟩
   have hvx:=ev_vr hs x (otm o (by simp[ho,Op.operands]) ha)
   have hvy:=hv G w _ (ev_vr hs y (otm o (by simp[ho,Op.operands]) ha))
   rw[hx]at hvx
   generalize hux:a.eval x=ux at hvx
   cases hvx with
   | eptr _ _ _ _ c' hc=>
    have hb':hget s'.h b=some (.arr fr ex ty sz' rows):=hr b _ (by simp)
    obtain⟨hsz',hown⟩:=hs.hr.own b (.arr fr ex ty sz' rows) hb'
    rcases hown with⟨hn',_⟩|hown
    ·rw[hn']at hc;cases hc
    obtain⟨c2,cs,e1,hh,hlen,hex,_⟩:=id hown
    rw[hc]at e1;cases e1
    have hap:=hs.hr.apart b _ c' hb' hc
    have hul:(a.eval y).cells.toList.length=new.length:=hvy.1.symm
    have hrl:r.length=sz':=hsz' r (List.mem_of_getElem? hrow)
    have hrlt:row < rows.length:=(List.getElem?_eq_some_iff.1 hrow).1
    have hfl:=flatten_cells hsz'
    have hmul:(row + 1) * sz'≤rows.length * sz':=Nat.mul_le_mul_right _ hrlt
    rw[Nat.succ_mul]at hmul
    have run:=storeAt_run hT ht (w:=w) (c:=c') (o:=row * sz' + c) (u:=a.eval y) hh (by omega) (by omega) (hvy.one h1)
    have hok:=hown.splice hc hh hap (o:=row * sz' + c) hvy (hvy.one h1) (by omega)
    have hsz:(cs.toList.take (row * sz' + c)++ (a.eval y).cells.toList ++ cs.toList.drop (row * sz' + c + (a.eval y).cells.toList.length)).toArray.size=cs.size:=by
     simp only[List.size_toArray,List.length_append,List.length_take,List.length_drop,Array.length_toList]at *
     omega
    have heq:(rows.set row (r.take c ++ new ++ r.drop (c + new.length))).flatten=rows.flatten.take (row * sz' + c)++ new ++ rows.flatten.drop (row * sz' + c + new.length):=by
     rw[flatten_set hsz' hrow (by simp;omega)]
     apply List.ext_getElem?
     intro j
     have e1:=splice_get rows.flatten new (row * sz' + c) (by omega) j
     rw[e1]
     have hL:(r.take c ++ new ++ r.drop (c + new.length)).length=sz':=by simp;omega
     have e2:=splice_get rows.flatten (r.take c ++ new ++ r.drop (c + new.length)) (row * sz') (by omega) j
     rw[hL]at e2
     rw[e2]
     have e3:=splice_get r new c (by omega) (j - row * sz')
     rw[e3]
     by_cases q1:j < row * sz'
     ·rw[if_pos q1,if_pos (show j < row * sz' + c by omega)]
     ·rw[if_neg q1]
      have hfr:∀k,k < sz'→rows.flatten[row * sz' + k]? = r[k]?:=by
       intro k hk
       rw[flatten_row hsz' hrow k r[k] (List.getElem?_eq_getElem (by omega)),List.getElem?_eq_getElem (by omega)]
      by_cases q2:j < row * sz' + sz'
      ·rw[if_pos q2]
       have:=hfr (j - row * sz') (by omega)
       rw[show row * sz' + (j - row * sz')=j by omega]at this
       by_cases q3:j - row * sz' < c
       ·rw[if_pos q3,if_pos (show j < row * sz' + c by omega),this]
       ·rw[if_neg q3,if_neg (show ¬ j < row * sz' + c by omega)]
        by_cases q4:j - row * sz' < c + new.length
        ·rw[if_pos q4,if_pos (show j < row * sz' + c + new.length by omega)];congr 1;omega
        ·rw[if_neg q4,if_neg (show ¬ j < row * sz' + c + new.length by omega),this]
      ·rw[if_neg q2,if_neg (show ¬ j < row * sz' + c by omega),if_neg (show ¬ j < row * sz' + c + new.length by omega)]
    refine⟨undef,_,G,.inr ⟨by simp only[execOp,ho,hux,Sem.run_bind,run,Result.andThen_ok,Sem.run_pure],rfl⟩,.any _,?_,fun _ _=>rfl,EvoA.setRow hh hsz hap hc⟩
    have:=HR.setRow hs.hr hb' hc hh hsz (.arr fr ex ty sz' (rows.set row (r.take c ++ new ++ r.drop (c + new.length)))) ⟨fun x hx=>by
      rcases List.mem_or_eq_of_mem_set hx with hx|rfl
      ·exact hsz' x hx
      ·simp;omega,.inr (by rw[heq];exact hok)⟩
    exact⟨this.amb_lt,this.B_le,fun b hb=>this.dom b (by omega),this.own,this.inj,this.apart,this.lt,(fun b blk hb=>by have:=this.hdom b blk hb;omega),this.gl⟩
  ·exact h.elim
 ·exact h.elim
end
section
variable {P : Program} {T : Tab} {s : St} {g : Option Bool} {o : Oper} {K : OK}
theorem fold_set (off:Nat):∀(us:List Value) (k:Nat) (A:Array Value),off + k + us.length≤A.size →
  ((us.zipIdx k).foldl (fun cs (c,j)=>cs.setIfInBounds (off + j) c) A).toList=A.toList.take (off + k)++ us ++ A.toList.drop (off + k + us.length)
 | [],k,A,_=>by simp
 | u :: us,k,A,h=>by
  have h':off + k + (us.length + 1)≤A.size:=by simpa using h
  rw[List.zipIdx_cons,List.foldl_cons,fold_set off us (k + 1) _ (by simp;omega)]
  rw[Array.toList_setIfInBounds,show off + (k + 1)=off + k + 1 by omega]
  have:=list_seg_step A.toList (off + k) u us (by simp;omega)
  rw[this]
  simp[Nat.add_assoc]
theorem fill_cons {place:Nat→Option (Nat × Nat)} {cells:Array Value} {i off size:Nat} {v:Value} {rest:List (Nat × Value)} (hp:place i=some (off,size)) (hs:v.cells.size=size) (hl:off + v.cells.size≤cells.size) :
  ∃cells',Instr.fill place cells ((i,v) :: rest)=Instr.fill place cells' rest∧cells'.toList=cells.toList.take off ++ v.cells.toList ++ cells.toList.drop (off + v.cells.toList.length):=by
 refine⟨_,?_,fold_set off v.cells.toList 0 cells (by simpa using hl)⟩
 have hl':¬ (off + v.cells.size > cells.size):=by omega
 simp only[Instr.fill,hp,hs,ne_eq,not_true_eq_false,decide_false,Bool.false_or,decide_eq_true_eq]
 rw[hs]at hl'
 rw[if_neg hl']
 congr 1
 rw[← Array.foldl_toList]
 simp
theorem vrs.splice {G:Gh} {w:World} {vs ns:List V} {us ms:List Value} (h:vrs G w vs us) (h':vrs G w ns ms) (o:Nat):vrs G w (vs.take o ++ ns ++ vs.drop (o + ns.length)) (us.take o ++ ms ++ us.drop (o + ms.length)):=by
 rw[← h'.1]
 exact((h.take o).append h').append (h.drop _)
theorem fillK_out {fs:List (Nat × Nat)}:∀{parts:List (Nat × Operand)} {cs:List V} {K:List V→Prop},fillK fs T cs s g parts K→∃cs',K cs'∧cs'.length=cs.length ∧
  ((g=none∨g=some true)→∀(G:Gh) (N:Nat) (a:Act) (w:World) (s':St),Sim G N s' a w→(∀p∈parts,∀i,p.2=.tmp i→s'.get i=s.get i) →
   ∀(cells:Array Value),vrs G w cs cells.toList→∃cells',Instr.fill (fun i=>(fs.map fun(f:Nat × Nat)=>(f.1,(T f.2).size))[i]?) cells (parts.map fun(p:Nat × Operand)=>(p.1,a.eval p.2))=some cells'∧vrs G w cs' cells'.toList)
 | [],cs,K,h=>⟨cs,h,rfl,fun _ G N a w s' hs _ cells hc=>⟨cells,rfl,hc⟩⟩
 | (i,x) :: r,cs,K,h=>by
  unfold fillK at h
  split at h
  ·rename_i hi
   have hi:i < fs.length:=by simpa[Nat.blt_eq]using hi
   obtain⟨v,h',hv⟩:=argK_out h;clear h;have h:=h';clear h'
   obtain⟨vs,h',hl,h1,hcs⟩:=cellsK_out h;clear h;have h:=h';clear h'
   obtain⟨hle,h'⟩:=putK_out h;clear h;have h:=h';clear h'
   obtain⟨cs',hK,hlen,hrest⟩:=fillK_out h
   refine⟨cs',hK,by rw[hlen];simp;omega,fun hg G N a w s' hs ha cells hc=>?_⟩
   have hx:=hcs G w _ (hv hg G w _ (ev_vr hs x (ha (i,x) (by simp))))
   have hp:(fs.map fun(f:Nat × Nat)=>(f.1,(T f.2).size))[i]? = some ((nth (0,0) fs i).1,(T (nth (0,0) fs i).2).size):=by
    rw[List.getElem?_map,nth_getElem? (0,0) fs i hi];rfl
   have hsz:(a.eval x).cells.size=(T (nth (0,0) fs i).2).size:=by have:=hx.1;rw[hl]at this;simpa using this.symm
   have hcl:=hc.1
   obtain⟨cells',hf,hc'⟩:=fill_cons (rest:=r.map fun(p:Nat × Operand)=>(p.1,a.eval p.2)) (place:=fun i=>(fs.map fun(f:Nat × Nat)=>(f.1,(T f.2).size))[i]?) (cells:=cells) (i:=i) (v:=a.eval x) hp hsz (by simp at hcl;omega)
   obtain⟨c2,hf2,hc2⟩:=hrest hg G N a w s' hs (fun p hp=>ha p (by simp[hp])) cells' (by rw[hc'];exact hc.splice hx _)
   exact⟨c2,by simp only[List.map_cons];rw[hf,hf2],hc2⟩
  ·exact h.elim
theorem knownAll_out:∀{fs:List (Nat × Nat)},knownAll T fs=true→∀f∈fs,(T f.2).k ≠ .other
 | [],_,f,hf=>by simp at hf
 | (o,t) :: r,h,f,hf=>by
  unfold knownAll at h
  split at h
  ·rename_i hk
   rcases List.mem_cons.1 hf with rfl|hf
   ·intro e;simp only at e;rw[e]at hk;simp[known]at hk
   ·exact knownAll_out h f hf
  ·cases h
theorem ex_build (hT:TabOk P T) {t:TypeId} {parts:Array (Nat × Operand)} (ho:o.op=.build t parts) (h:exec T s g o K):ExOk P s g o K:=by
 simp only[exec,ho]at h
 split at h
 ·rename_i fs hk
  split at h
  ·rename_i hka
   obtain⟨cs,h',hl,h1,hv⟩:=constsK_out h;clear h;have h:=h';clear h'
   obtain⟨cs',hK,hlen,hf⟩:=fillK_out h
   refine .of_pure (rd:=[]) hK fun hg G N a w s' hs ha _=>?_
   obtain⟨i,z,d,q1,q2,_,q4,q5,q6,q7⟩:=hT.at (t:=t) (by rw[hk];simp)
   rw[hk,DescOk]at q7
   obtain⟨fields,rfl,hfs⟩:=q7
   obtain⟨cells',hfill,hc⟩:=hf hg G N a w s' hs (fun p hp=>otm o (by
    rw[ho];simp only[Op.operands,List.mem_toArray,List.mem_map];exact⟨p,hp,rfl⟩) ha) z.cells (by rw[q5];exact hv G w)
   have hmap:fields.toList.mapM (fun f=>(P.info? f.type).map fun i=>(f.offset,i.size))=some (fs.map fun(f:Nat × Nat)=>(f.1,(T f.2).size)):=by
    have hall:∀f∈fields.toList,(P.info? f.type).map (fun i=>(f.offset,i.size))=some (f.offset,(T f.type).size):=by
     intro f hf
     have hm:(f.offset,f.type)∈fs:=by rw[← hfs];exact List.mem_map.2 ⟨f,hf,rfl⟩
     obtain⟨i',z',d',r1,r2,_⟩:=hT.at (t:=f.type) (knownAll_out hka _ hm)
     rw[r1,Option.map_some,r2]
    rw[← hfs,List.map_map]
    clear hfs hfill hf hK q6
    generalize fields.toList=l at hall
    induction l with
    | nil=>rfl
    | cons f l ih=>
     rw[List.mapM_cons,hall f (by simp),ih (fun f hf=>hall f (by simp[hf]))]
     rfl
   have hb:P.built t (parts.map fun(i,x)=>(i,a.eval x)).toList=some cells':=by
    unfold Program.built
    simp only[q1,q6,q4,hmap]
    simpa using hfill
   refine⟨.agg cells',by simp only[execOp,ho,Sem.run_bind,run_build w t _ cells' hb,Result.andThen_ok,Sem.run_pure],?_⟩
   have:(V.agg cs')=V.agg cs':=rfl
   have hvr:vr G w (.agg cs') (.agg cells'.toList.toArray):=.agg cs' cells'.toList hc.1 hc.2
   simpa using hvr
  ·exact h.elim
 ·exact h.elim
theorem setRow_eq:∀{rows:List (List V)} {i:Nat} {r:List V},setRow rows i r=rows.set i r
 | [],i,r=>by simp[setRow]
 | x :: rows,0,r=>by simp[setRow]
 | x :: rows,i + 1,r=>by simp[setRow,setRow_eq (rows:=rows)]
theorem rep_eq {α:Type} (x:α):∀n,rep x n=List.replicate n x
 | 0=>rfl
 | n + 1=>by simp[rep,List.replicate_succ,rep_eq x n]
theorem fillRowsK_out {sz:Nat}:∀{parts:List (Nat × Operand)} {rows:List (List V)} {K:List (List V)→Prop},(∀x∈rows,x.length=sz)→(∀x∈rows,∀v∈x,v.one=true)→fillRowsK sz rows s g parts K→∃rows',K rows'∧rows'.length=rows.length∧(∀x∈rows',x.length=sz)∧(∀x∈rows',∀v∈x,v.one=true) ∧
  ((g=none∨g=some true)→∀(G:Gh) (N:Nat) (a:Act) (w:World) (s':St),Sim G N s' a w→(∀p∈parts,∀i,p.2=.tmp i→s'.get i=s.get i) →
   ∀(cells:Array Value),vrs G w rows.flatten cells.toList→∃cells',Instr.fill (fun i=>some (i * sz,sz)) cells (parts.map fun(p:Nat × Operand)=>(p.1,a.eval p.2))=some cells'∧vrs G w rows'.flatten cells'.toList)
 | [],rows,K,hr,ho,h=>⟨rows,by rw[fillRowsK,forceR_eq]at h;exact h,rfl,hr,ho,fun _ G N a w s' hs _ cells hc=>⟨cells,rfl,hc⟩⟩
 | (i,x) :: r,rows,K,hr,ho,h=>by
  unfold fillRowsK at h
  split at h
  case h_2=>exact h.elim
  rename_i hi
  obtain⟨v,h',hv⟩:=argK_out h;clear h;have h:=h';clear h'
  obtain⟨vs,h',hl,h1,hcs⟩:=cellsK_out h;clear h;have h:=h';clear h'
  rw[setRow_eq]at h
  have hr':∀y∈rows.set i vs,y.length=sz:=by
   intro y hy
   rcases List.mem_or_eq_of_mem_set hy with hy|rfl
   ·exact hr y hy
   ·exact hl
  have ho':∀y∈rows.set i vs,∀v∈y,v.one=true:=by
   intro y hy
   rcases List.mem_or_eq_of_mem_set hy with hy|rfl
   ·exact ho y hy
   ·exact h1
  obtain⟨rows',hK,hlen,hrow,hone,hrest⟩:=fillRowsK_out hr' ho' h
  refine⟨rows',hK,by rw[hlen];simp,hrow,hone,fun hg G N a w s' hs ha cells hc=>?_⟩
  have hx:=hcs G w _ (hv hg G w _ (ev_vr hs x (ha (i,x) (by simp))))
  have hsz:(a.eval x).cells.size=sz:=by have:=hx.1;rw[hl]at this;simpa using this.symm
  have hlt:i < rows.length:=by simpa[Nat.blt_eq]using hi
  have hmul:(i + 1) * sz≤rows.length * sz:=Nat.mul_le_mul_right _ hlt
  rw[Nat.succ_mul]at hmul
  have hfl:=flatten_cells hr
  have hcl:rows.flatten.length=cells.size:=by have:=hc.1;rwa [Array.length_toList]at this
  obtain⟨cells',hf,hc'⟩:=fill_cons (rest:=r.map fun(p:Nat × Operand)=>(p.1,a.eval p.2)) (place:=fun i=>some (i * sz,sz)) (cells:=cells) (i:=i) (v:=a.eval x) rfl hsz (by omega)
  obtain⟨c2,hf2,hc2⟩:=hrest hg G N a w s' hs (fun p hp=>ha p (by simp[hp])) cells' (by
   rw[hc',flatten_set hr (List.getElem?_eq_getElem hlt) hl]
   have:=hc.splice hx (i * sz)
   rwa [hl]at this)
  exact⟨c2,by simp only[List.map_cons];rw[hf,hf2],hc2⟩
theorem made_flatten (cs:List V) (z:Array Value) (G:Gh) (w:World) (h:vrs G w cs z.toList) (hz:0 < cs.length):∀n,vrs G w (List.replicate n cs).flatten ((Array.range (n * cs.length)).map (z[· % z.size]!)).toList:=by
 intro n
 have hsz:z.size=cs.length:=by have:=h.1;simpa using this.symm
 have hfl:(List.replicate n cs).flatten.length=n * cs.length:=by
  rw[flatten_cells (sz:=cs.length) (fun x hx=>by rw[List.eq_of_mem_replicate hx])];simp
 refine⟨by rw[hfl];simp,fun j v u h1 h2=>?_⟩
 have hj:j < n * cs.length:=by rw[← hfl];exact(List.getElem?_eq_some_iff.1 h1).1
 have hmod:j % cs.length < cs.length:=Nat.mod_lt _ hz
 have hdiv:j / cs.length < n:=by rw[Nat.div_lt_iff_lt_mul hz];exact hj
 have h3:=flatten_row (rows:=List.replicate n cs) (sz:=cs.length) (row:=j / cs.length) (r:=cs) (fun x hx=>by rw[List.eq_of_mem_replicate hx]) (by simp[List.getElem?_replicate,hdiv]) (j % cs.length) cs[j % cs.length] (List.getElem?_eq_getElem hmod)
 rw[Nat.mul_comm,Nat.div_add_mod]at h3
 rw[h3]at h1
 simp only[Option.some.injEq]at h1
 subst h1
 have hu:u=z[j % z.size]!:=by
  have:j < (Array.range (n * cs.length)).size:=by simpa using hj
  simp[hj]at h2
  exact h2.symm
 have hlt:j % z.size < z.toList.length:=by simp;exact Nat.mod_lt _ (by omega)
 refine h.2 _ _ _ (List.getElem?_eq_getElem hmod) ?_
 rw[hu,← hsz,List.getElem?_eq_getElem hlt]
 simp[getElem!_pos,show j % z.size < z.size by simpa using hlt]
theorem HR.more {G:Gh} {hp:Heap} {n n':Nat} {w:World} (h:HR G hp n w) (hn:n≤n'):HR G hp n' w:=
 ⟨h.amb_lt,h.B_le,fun b hb=>h.dom b (by omega),h.own,h.inj,h.apart,h.lt,fun b blk hb=>by have:=h.hdom b blk hb;omega,h.gl⟩
theorem ex_buildSlice (hT:TabOk P T) {t:TypeId} {len:Nat} {parts:Array (Nat × Operand)} (ho:o.op=.buildSlice t len parts) (h:exec T s g o K):ExOk P s g o K:=by
 simp only[exec,ho]at h
 split at h
 ·exact h.elim
 split at h
 ·rename_i e hk
  obtain⟨h',ht⟩:=szK_out h;clear h;have h:=h';clear h'
  obtain⟨cs,h',hl,h1,hv⟩:=constsK_out h;clear h;have h:=h';clear h'
  split at h
  ·rename_i hlen hsm hpos
   rw[forceN_eq]at h
   have hlen:=lenIs_eq hlen
   have hpos:0 < (T e).size:=by simpa[Nat.blt_eq]using hpos
   have hsm:len * (T e).size≤1000:=by simpa using hsm
   rw[rep_eq]at h
   obtain⟨rows',hK,hrl,hrow,hone,hf⟩:=fillRowsK_out (fun x hx=>by rw[List.eq_of_mem_replicate hx,hlen]) (fun x hx=>by rw[List.eq_of_mem_replicate hx];exact h1) h
   refine⟨_,_,_,_,hK,RdOk.new (.nil _),fun _=>⟨by omega,fun G N a w s' hs ha hr hn=>?_⟩,fun hg=>absurd rfl hg⟩
   obtain⟨_,_,d,_,_,_,_,_,h6,h7⟩:=hT.at (t:=t) (by rw[hk];simp)
   rw[hk,DescOk]at h7
   subst h7
   obtain⟨i,z,d,q1,q2,_,q4,q5,_,_⟩:=hT.at ht
   have hi:=hn s.nx (Nat.le_refl _) (by omega)
   have hzv:vrs G w cs z.cells.toList:=by rw[q5];exact hv G w
   have hmade:=made_flatten cs z.cells G w hzv (by omega) len
   obtain⟨cells',hfill,hc⟩:=hf (.inl rfl) G N a w s' hs (fun p hp=>otm o (by
    rw[ho];simp only[Op.operands,List.mem_toArray,List.mem_map];exact⟨p,hp,rfl⟩) ha) _ hmade
   have hrun:(Instr.buildSlice t len (parts.map fun(i,x)=>(i,a.eval x))).run P w=.ok (.slice (some ⟨w.heap.size,0,none⟩) len len) (w.alloc (.cells cells' e)):=by
    rw[hlen]at hfill
    have hs24:¬ (16777216 < len * (T e).size):=by omega
    have hfill':Instr.fill (fun i=>some (i * (T e).size,(T e).size)) ((Array.range (len * (T e).size)).map (z.cells[· % z.cells.size]!)) (parts.map fun(p:Nat × Operand)=>(p.1,a.eval p.2)).toList=some cells':=by
     rw[Array.toList_map];exact hfill
    by_cases h0:len=0
    ·subst h0
     have z0:0 * (T e).size=0:=Nat.zero_mul _
     have r0:Array.range 0=#[]:=by apply Array.ext';simp
     simp only[z0,r0,List.map_toArray,List.map_nil,Array.toList_map]at hfill' hs24
     simp[Instr.buildSlice,run_underlying h6,hT.sizeOf ht,r0,hfill',newRow,hs24]
    ·have hne:¬ len * (T e).size=0:=by
      have:=Nat.mul_pos (Nat.pos_of_ne_zero h0) hpos
      omega
     have hz0:(zeroValue e).run P w=.ok z w:=by simp[zeroValue,typeInfo,q1,q4]
     simp only[Instr.buildSlice,Sem.run_bind,run_underlying h6,Result.andThen_ok,hT.sizeOf ht,hne,if_false,hz0,Sem.run_pure,gt_iff_lt,show(2:Nat) ^ 24=16777216 from rfl,hs24,hfill',newRow,run_newObj]
     rfl
   have hrl':rows'.length=len:=by rw[hrl];simp
   have hok:=holds_new hs.hr s.nx hi e rows'.flatten cells' hc (hc.one (fun v hv=>by obtain⟨x,hx,hv⟩:=List.mem_flatten.1 hv;exact hone x hx v hv))
   have hcs:cells'.size=len * (T e).size:=by
    have:=hc.1
    rw[flatten_cells hrow,hrl',Array.length_toList]at this
    exact this.symm
   refine⟨.slice (some ⟨w.heap.size,0,none⟩) len len,w.alloc (.cells cells' e),G.with s.nx (some w.heap.size),.inl ?_,?_,HR.alloc hs.hr _ _ hi (.arr true true e (T e).size rows') ⟨hrow,.inr hok⟩,fun b hb=>Gh.with_other _ (by omega) _,EvoA.alloc hs.hr _ _ hi⟩
   ·simp only[execOp,ho,Sem.run_bind,hrun,Result.andThen_ok,Sem.run_pure]
   ·have hle:len≤maxLen:=by
     have:len * 1≤len * (T e).size:=Nat.mul_le_mul_left _ hpos
     unfold maxLen;omega
    have:=VR.osl (ι:=(G.with s.nx (some w.heap.size)).ι) (csz:=csz (w.alloc (.cells cells' e))) (imm:=imm (G.with s.nx (some w.heap.size)) (w.alloc (.cells cells' e))) s.nx (T e).size 0 len w.heap.size len (len * (T e).size) (Gh.with_self _ _ _) (by
     have:(w.alloc (.cells cells' e)).heap[w.heap.size]? = some (.cells cells' e):=by show(w.heap.push _)[w.heap.size]? = _;simp
     unfold csz;rw[this];exact congrArg some hcs) (by rw[Nat.zero_add]) (Nat.le_refl _) hle
    rwa [Nat.zero_mul]at this
  ·exact h.elim
 ·exact h.elim
end
section
variable {P : Program} {T : Tab} {s : St} {g : Option Bool} {o : Oper} {K : OK}
theorem csz_new (w:World) (us:Array Value) (e:TypeId):csz (w.alloc (.cells us e)) w.heap.size=some us.size:=by
 have:(w.alloc (.cells us e)).heap[w.heap.size]? = some (.cells us e):=by show(w.heap.push _)[w.heap.size]? = _;simp
 unfold csz;rw[this]
theorem ex_makeSlice (hT:TabOk P T) {t:TypeId} {l c:Operand} (ho:o.op=.makeSlice t l c) (h:exec T s g o K):ExOk P s g o K:=by
 simp only[exec,ho]at h
 split at h
 ·exact h.elim
 split at h
 ·rename_i e li ci hk hl hc
  obtain⟨h',ht⟩:=szK_out h;clear h;have h:=h';clear h'
  obtain⟨cs,h',hln,h1,hv⟩:=constsK_out h;clear h;have h:=h';clear h'
  split at h
  ·rename_i hlen hpos
   rw[forceN_eq]at h
   have hlen:=lenIs_eq hlen
   have hpos:0 < (T e).size:=by simpa[Nat.blt_eq]using hpos
   obtain⟨⟨h0,hlc,hby,hc47⟩,h⟩:=h
   refine⟨_,_,_,_,h,RdOk.new (.nil _),fun _=>⟨by omega,fun G N a w s' hs ha hr hn=>?_⟩,fun hg=>absurd rfl hg⟩
   obtain⟨_,_,d,_,_,_,_,_,h6,h7⟩:=hT.at (t:=t) (by rw[hk];simp)
   rw[hk,DescOk]at h7
   subst h7
   obtain⟨i,z,d,q1,q2,q3,q4,q5,_,_⟩:=hT.at ht
   have hi:=hn s.nx (Nat.le_refl _) (by omega)
   have hvl:=ev_vr hs l (otm o (by simp[ho,Op.operands]) ha)
   have hvc:=ev_vr hs c (otm o (by simp[ho,Op.operands]) ha)
   rw[hl]at hvl;rw[hc]at hvc
   have hvl:=VR.int_iff.1 hvl
   have hvc:=VR.int_iff.1 hvc
   have hrun:=run_make (P:=P) w t e i z h6 q1 q4 .i64 .i64 li ci h0 hlc (by rw[q3];omega) (by omega)
   have hzv:vrs G w cs z.cells.toList:=by rw[q5];exact hv G w
   have hmade:=made_flatten cs z.cells G w hzv (by omega) ci.toNat
   rw[hlen,← q2]at hmade
   have hrow:∀x,x∈List.replicate ci.toNat cs→x.length=(T e).size:=fun x hx=>by rw[List.eq_of_mem_replicate hx,hlen]
   have hok:=holds_new hs.hr s.nx hi e (List.replicate ci.toNat cs).flatten (madeCells z.cells (ci.toNat * i.size)) hmade (hmade.one (fun v hv=>by
    obtain⟨x,hx,hv⟩:=List.mem_flatten.1 hv
    rw[List.eq_of_mem_replicate hx]at hv
    exact h1 v hv))
   refine⟨_,_,G.with s.nx (some w.heap.size),.inl (by simp only[execOp,ho,hvl,hvc,Sem.run_bind,hrun,Result.andThen_ok,Sem.run_pure];rfl),?_,HR.alloc hs.hr _ _ hi (.arr true true e (T e).size (List.replicate ci.toNat cs)) ⟨hrow,.inr hok⟩,fun b hb=>Gh.with_other _ (by omega) _,EvoA.alloc hs.hr _ _ hi⟩
   have hle:ci.toNat≤maxLen:=by unfold maxLen;omega
   have:=VR.osl (ι:=(G.with s.nx (some w.heap.size)).ι) (csz:=csz (w.alloc (.cells (madeCells z.cells (ci.toNat * i.size)) e))) (imm:=imm (G.with s.nx (some w.heap.size)) (w.alloc (.cells (madeCells z.cells (ci.toNat * i.size)) e))) s.nx (T e).size 0 li.toNat w.heap.size ci.toNat (ci.toNat * (T e).size) (Gh.with_self _ _ _) (by
    rw[csz_new,size_madeCells,q2]) (by rw[Nat.zero_add]) (by omega) hle
   rwa [Nat.zero_mul]at this
  ·exact h.elim
 ·exact h.elim
def Xs (P:Program) (size:Nat) (w:World) (x:Value) (m:Nat) (news:List Value):Prop:=
 news.length=m * size∧(∀u∈news,u.oneCell'=true)∧(Builtin.lenOf x).run P w=.ok m w∧(Builtin.firstCells size m x).run P w=.ok news.toArray w∧(Builtin.firstCells size m x).run P w.drew=.ok news.toArray w.drew
theorem rowsK_out {sz0:Nat} {h:Heap} {v:V} {K:Nat→List (List V)→Heap→Prop} (hK:rowsK h v K):∃sz ys rd,K sz ys rd∧(∀b ob,(b,ob)∈rd→hget h b=ob) ∧
  ∀(G:Gh) (hp:Heap) (n:Nat) (w:World) (u:Value),HR G hp n w→(∀b ob,(b,ob)∈rd→hget hp b=ob)→vr G w v u→∃news,Xs P sz w u ys.length news∧vrs G w ys.flatten news∧∀x∈ys,x.length=sz:=by
 unfold rowsK at hK
 split at hK
 ·rename_i fr sz xs
  refine⟨sz,xs,[],hK,by simp,fun G hp n w u hr _ hv=>?_⟩
  cases hv with
  | sl _ _ _ A cap us hcap hm hA hrow hc hval=>
   have hlen:=flatten_cells hrow
   refine⟨(List.range (xs.length * sz)).map us,⟨by simp,?_,rfl,?_⟩,⟨by rw[hlen];simp,?_⟩,hrow⟩
   ·intro u hu
    obtain⟨j,hj,rfl⟩:=List.mem_map.1 hu
    have hj:j < xs.flatten.length:=by rw[hlen];simpa using hj
    obtain⟨ad,rfl,_⟩:=hA (by intro e;subst e;simp at hj)
    exact(hc j _ (List.getElem?_eq_getElem hj) ad rfl).2.2.2 rfl
   ·have key:∀W:World,W.heap=w.heap→(Builtin.firstCells sz xs.length (.slice A xs.length cap)).run P W=.ok ((List.range (xs.length * sz)).map us).toArray W:=by
     intro W hW
     rcases A with _|ad
     ·have h0:xs=[]:=by
       rcases xs with _|⟨x,xs⟩
       ·rfl
       ·obtain⟨_,h,_⟩:=hA (by simp);cases h
      subst h0
      simp[Builtin.firstCells]
     ·by_cases h0:xs=[]
      ·subst h0;simp[Builtin.firstCells,loadCells,loadCellsFrom]
      ·obtain⟨ad',h,hsp⟩:=hA h0
       cases h
       refine run_firstCells_some W sz xs.length ad _ _ _ (by simp) fun j v hj=>?_
       have hjl:j < xs.length * sz:=by simpa using(List.getElem?_eq_some_iff.1 hj).1
       have hj':j < xs.flatten.length:=by rw[hlen];exact hjl
       have:w.cell? ⟨ad.block,ad.off + j,none⟩=some (us j):=(hc j _ (List.getElem?_eq_getElem hj') ad rfl).1
       rw[add_none hsp]
       simp[hjl]at hj
       subst hj
       rw[← this]
       simp[World.cell?,hW]
    exact⟨key w rfl,key w.drew rfl⟩
   ·intro j v u hv hu
    have hj:=(List.getElem?_eq_some_iff.1 hv).1
    rw[hlen]at hj
    simp[hj]at hu
    subst hu
    exact hval j v hv
 ·rename_i b sz row n
  split at hK
  ·rename_i fr ex ty sz' rows hb
   obtain⟨rfl,hn,hK⟩:=hK
   refine⟨_,_,_,hK,by rintro b' ob' hm;simp only[List.mem_singleton,Prod.mk.injEq]at hm;obtain⟨rfl,rfl⟩:=hm;exact hb,fun G hp n' w u hr hrd hv=>?_⟩
   have hb':hget hp b=some (.arr fr ex ty sz' rows):=hrd b _ (by simp)
   obtain⟨hsz,hown⟩:=hr.own b (.arr fr ex ty sz' rows) hb'
   have hrow:∀x∈(rows.drop row).take n,x.length=sz':=fun x hx=>hsz x (List.mem_of_mem_drop (List.mem_of_mem_take hx))
   have hlen:=flatten_cells hrow
   have hl:((rows.drop row).take n).length=n:=by simp at hn ⊢;omega
   rw[hl]at hlen ⊢
   have zero:n=0→∀A cap,∃news,Xs P sz' w (.slice A n cap) n news∧vrs G w ((rows.drop row).take n).flatten news∧∀x∈(rows.drop row).take n,x.length=sz':=by
    rintro rfl A cap
    refine⟨[],⟨by simp,by simp,rfl,?_⟩,⟨by simp,by simp⟩,hrow⟩
    cases A<;>simp[Builtin.firstCells,loadCells,loadCellsFrom]
   cases hv with
   | oslz=>exact zero rfl _ _
   | osl _ _ _ _ c cap m hc hz he hn' hm=>
    rcases hown with⟨h1,_⟩|hown
    ·rw[h1]at hc;cases hc
    by_cases hn0:n=0
    ·exact zero hn0 _ _
    have hrn:row + n≤rows.length:=by simp at hn;omega
    have hrd:=(hown.reads hc).sub (o:=row * sz') (ws:=((rows.drop row).take n).flatten) fun j v hj=>by
     have e:=List.take_drop (l:=rows) (i:=n) (j:=row)
     rw[e]at hj
     exact take_drop_flatten hsz row (row + n) hrn (by simpa[Nat.add_comm]using hj)
    obtain⟨_,us,hus⟩:=hrd
    have hone:∀j,j < n * sz'→(us j).oneCell'=true:=by
     intro j hj
     obtain⟨c2,cs,e1,hh,_,_,_,h6,_⟩:=id hown
     rw[hc]at e1;cases e1
     have hjl:j < ((rows.drop row).take n).flatten.length:=by rw[hlen];exact hj
     have h3:=(hus j _ (List.getElem?_eq_getElem hjl)).1
     have e:=List.take_drop (l:=rows) (i:=n) (j:=row)
     have h4:=take_drop_flatten (j:=j) (v:=((rows.drop row).take n).flatten[j]) hsz row (row + n) hrn (by rw[Nat.add_comm row n]at e ⊢;simp only[← e];exact List.getElem?_eq_getElem hjl)
     obtain⟨u,hu,h1,_⟩:=h6 _ _ h4
     simp[World.cell?,hh,hu]at h3
     rw[← h3];exact h1
    refine⟨(List.range (n * sz')).map us,⟨by simp,?_,rfl,?_⟩,⟨by rw[hlen];simp,?_⟩,hrow⟩
    ·intro u hu
     obtain⟨j,hj,rfl⟩:=List.mem_map.1 hu
     exact hone j (by simpa using hj)
    ·have key:∀W:World,W.heap=w.heap→(Builtin.firstCells sz' n (.slice (some ⟨c,row * sz',none⟩) n cap)).run P W=.ok ((List.range (n * sz')).map us).toArray W:=by
      intro W hW
      refine run_firstCells_some W sz' n _ _ _ _ (by simp) fun j v hj=>?_
      have hjl:j < n * sz':=by simpa using(List.getElem?_eq_some_iff.1 hj).1
      have hj':j < ((rows.drop row).take n).flatten.length:=by rw[hlen];exact hjl
      have:=(hus j _ (List.getElem?_eq_getElem hj')).1
      rw[add_none rfl]
      simp[hjl]at hj
      subst hj
      rw[← this]
      simp[World.cell?,hW]
     exact⟨key w rfl,key w.drew rfl⟩
    ·intro j v u hv hu
     have hj:=(List.getElem?_eq_some_iff.1 hv).1
     rw[hlen]at hj
     simp[hj]at hu
     subst hu
     exact(hus j v hv).2
  ·exact hK.elim
 ·obtain⟨z,hK⟩:=hK
  refine⟨z,[],[],hK,by simp,fun G hp n w u hr _ hv=>?_⟩
  cases hv with
  | snil A=>exact⟨[],⟨by simp,by simp,rfl,by cases A<;>simp[Builtin.firstCells,loadCells,loadCellsFrom],by cases A<;>simp[Builtin.firstCells,loadCells,loadCellsFrom]⟩,⟨by simp,by simp⟩,by simp⟩
 ·rename_i b sz row n
  split at hK
  ·rename_i fr ex ty sz' rows hb
   obtain⟨rfl,hn,hK⟩:=hK
   refine⟨_,_,_,hK,by rintro b' ob' hm;simp only[List.mem_singleton,Prod.mk.injEq]at hm;obtain⟨rfl,rfl⟩:=hm;exact hb,fun G hp n' w u hr hrd hv=>?_⟩
   have hb':hget hp b=some (.arr fr ex ty sz' rows):=hrd b _ (by simp)
   obtain⟨hsz,hown⟩:=hr.own b (.arr fr ex ty sz' rows) hb'
   have hrow:∀x∈(rows.drop row).take n,x.length=sz':=fun x hx=>hsz x (List.mem_of_mem_drop (List.mem_of_mem_take hx))
   have hlen:=flatten_cells hrow
   have hl:((rows.drop row).take n).length=n:=by simp at hn ⊢;omega
   rw[hl]at hlen ⊢
   have zero:n=0→∀A cap,∃news,Xs P sz' w (.slice A n cap) n news∧vrs G w ((rows.drop row).take n).flatten news∧∀x∈(rows.drop row).take n,x.length=sz':=by
    rintro rfl A cap
    refine⟨[],⟨by simp,by simp,rfl,?_⟩,⟨by simp,by simp⟩,hrow⟩
    cases A<;>simp[Builtin.firstCells,loadCells,loadCellsFrom]
   cases hv with
   | psl _ _ _ _ c cap m hc hz he hn' hm=>
    rcases hown with⟨h1,_⟩|hown
    ·rw[h1]at hc;cases hc
    by_cases hn0:n=0
    ·exact zero hn0 _ _
    have hrn:row + n≤rows.length:=by simp at hn;omega
    have hrd:=(hown.reads hc).sub (o:=row * sz') (ws:=((rows.drop row).take n).flatten) fun j v hj=>by
     have e:=List.take_drop (l:=rows) (i:=n) (j:=row)
     rw[e]at hj
     exact take_drop_flatten hsz row (row + n) hrn (by simpa[Nat.add_comm]using hj)
    obtain⟨_,us,hus⟩:=hrd
    have hone:∀j,j < n * sz'→(us j).oneCell'=true:=by
     intro j hj
     obtain⟨c2,cs,e1,hh,_,_,_,h6,_⟩:=id hown
     rw[hc]at e1;cases e1
     have hjl:j < ((rows.drop row).take n).flatten.length:=by rw[hlen];exact hj
     have h3:=(hus j _ (List.getElem?_eq_getElem hjl)).1
     have e:=List.take_drop (l:=rows) (i:=n) (j:=row)
     have h4:=take_drop_flatten (j:=j) (v:=((rows.drop row).take n).flatten[j]) hsz row (row + n) hrn (by rw[Nat.add_comm row n]at e ⊢;simp only[← e];exact List.getElem?_eq_getElem hjl)
     obtain⟨u,hu,h1,_⟩:=h6 _ _ h4
     simp[World.cell?,hh,hu]at h3
     rw[← h3];exact h1
    refine⟨(List.range (n * sz')).map us,⟨by simp,?_,rfl,?_⟩,⟨by rw[hlen];simp,?_⟩,hrow⟩
    ·intro u hu
     obtain⟨j,hj,rfl⟩:=List.mem_map.1 hu
     exact hone j (by simpa using hj)
    ·have key:∀W:World,W.heap=w.heap→(Builtin.firstCells sz' n (.slice (some ⟨c,row * sz',none⟩) n cap)).run P W=.ok ((List.range (n * sz')).map us).toArray W:=by
      intro W hW
      refine run_firstCells_some W sz' n _ _ _ _ (by simp) fun j v hj=>?_
      have hjl:j < n * sz':=by simpa using(List.getElem?_eq_some_iff.1 hj).1
      have hj':j < ((rows.drop row).take n).flatten.length:=by rw[hlen];exact hjl
      have:=(hus j _ (List.getElem?_eq_getElem hj')).1
      rw[add_none rfl]
      simp[hjl]at hj
      subst hj
      rw[← this]
      simp[World.cell?,hW]
     exact⟨key w rfl,key w.drew rfl⟩
    ·intro j v u hv hu
     have hj:=(List.getElem?_eq_some_iff.1 hv).1
     rw[hlen]at hj
     simp[hj]at hu
     subst hu
     exact(hus j v hv).2
  ·exact hK.elim
 ·exact hK.elim
theorem append_room {w:World} {t t' ty e:TypeId} {d':TypeDesc} (ht:P.underlying t=some (.slice e)) (ht':P.underlying t'=some d') (hd':∀k,d' ≠ .int k) {size:Nat} (hs:(sizeOf e).run P w=.ok size w)
  {A:Option Addr} {n cap m:Nat} {x:Value} {news:List Value} (hx:Xs P size w x m news) (hroom:n + m≤cap)
  {w':World} (hst:∀ad,A=some ad→(storeCells (ad.add (n * size)) news).run P w=.ok () w') (hnone:A=none→w'=w) :
  (Builtin.append_ #[t,t'] ty #[.slice A n cap,x]).run P w=.ok (.slice A (n + m) cap) w':=by
 obtain⟨h1,h2,h3,h4,h5⟩:=hx
 have hz:(match d' with|.int _=>true|_=>false)=false:=by
  cases d'<;>first|rfl|exact absurd rfl (hd' _)
 rcases A with _|ad
 ·have:=hnone rfl
  subst this
  simp[Builtin.append_,run_underlying ht,run_underlying ht',hs,h3,hz,hroom,h4]
 ·simp[Builtin.append_,run_underlying ht,run_underlying ht',hs,h3,hz,hroom,h4,hst ad rfl]
theorem append_grows {w:World} {t t' ty e:TypeId} {d':TypeDesc} (ht:P.underlying t=some (.slice e)) (ht':P.underlying t'=some d') (hd':∀k,d' ≠ .int k) {i:TypeInfo} {z:Value} (hi:P.info? e=some i) (hz:i.zero=some z)
  {A:Option Addr} {n cap m:Nat} {x:Value} {olds news:List Value} (hx:Xs P i.size w x m news) (ho:(Builtin.firstCells i.size n (.slice A n cap)).run P w.drew=.ok olds.toArray w.drew) (hg:cap < n + m)
  (h63:n + m≤9223372036854775807) (hby:(n + m) * i.bytes≤140737488355328) :
  (Builtin.append_ #[t,t'] ty #[.slice A n cap,x]).run P w=.ok (.slice (some ⟨w.heap.size,0,none⟩) (n + m) (grownCap w (n + m) cap e))
    (w.drew.alloc (.cells (olds.toArray ++ news.toArray ++ Builtin.zeroCells z.cells (grownCap w (n + m) cap e - (n + m))) e)):=by
 obtain⟨h1,h2,h3,h4,h5⟩:=hx
 have hzz:(match d' with|.int _=>true|_=>false)=false:=by
  cases d'<;>first|rfl|exact absurd rfl (hd' _)
 have hn:¬ (n + m≤cap):=by omega
 have h63':¬ (9223372036854775807 < ((n:Int)+ (m:Int))):=by omega
 have hfit:=growslice_fits hg hby
 have h48':¬ (281474976710656 < Builtin.nextslicecap (n + m) cap * i.bytes):=by omega
 simp[Builtin.append_,run_underlying ht,run_underlying ht',sizeOf,typeInfo,zeroValue,hi,hz,h3,hzz,hn,h63',h48',Question.forced,ho,h5,newRow,grownCap]
 congr 2
 apply Array.ext'
 simp[List.append_assoc]
end
section
open Go.Maps (Keyed bool_keyed int_keyed string_keyed)
variable {P : Program} {T : Tab} {s : St} {g : Option Bool} {o : Oper} {K : OK}
theorem mapM_mono {α β:Type} {f g:α→Option β}:∀{l:List α} {r:List β},l.mapM f=some r→(∀x∈l,∀y,f x=some y→g x=some y)→l.mapM g=some r
 | [],r,h,_=>by simpa using h
 | x :: l,r,h,hf=>by
  rw[List.mapM_cons]at h ⊢
  cases hx:f x with
  | none=>rw[hx]at h;cases h
  | some y=>
   rw[hx]at h
   rw[hf x (by simp) y hx]
   cases hl:l.mapM f with
   | none=>rw[hl]at h;cases h
   | some ys=>
    rw[hl]at h
    rw[mapM_mono hl (fun x hx=>hf x (by simp[hx]))]
    exact h
theorem keyLits_mono {P:Program}:∀{d:Nat} {t:TypeId} {cs:List Value} {l:List Lit},P.keyLits d t cs=some l→∀{d':Nat},d≤d'→P.keyLits d' t cs=some l
 | 0,t,cs,l,h,d',_=>by simp[Program.keyLits]at h
 | d + 1,t,cs,l,h,d',hd=>by
  obtain⟨e,rfl⟩:∃e,d'=e + 1:=⟨d' - 1,by omega⟩
  unfold Program.keyLits at h ⊢
  cases hu:P.underlying t with
  | none=>simp[hu]at h
  | some dd=>
   cases dd
   case array n el=>
    simp only[hu]at h ⊢
    split at h
    ·rename_i hc
     rw[if_pos hc]
     obtain⟨ls,hls,rfl⟩:=Option.map_eq_some_iff.1 h
     rw[mapM_mono hls (fun x _ y hy=>keyLits_mono hy (by omega))]
     rfl
    ·cases h
   case struct fs=>
    simp only[hu]at h ⊢
    split at h
    ·rename_i hc
     rw[if_pos hc]
     obtain⟨ls,hls,rfl⟩:=Option.map_eq_some_iff.1 h
     rw[mapM_mono hls (fun x _ y hy=>keyLits_mono hy (by omega))]
     rfl
    ·cases h
   all_goals (simp only[hu]at h ⊢;revert h;rcases cs with _|⟨a,_|⟨b,r⟩⟩<;>first|exact id|(cases a<;>exact id))
theorem KeyV.out (hT:TabOk P T) {t:Nat} {v:V} (h:KeyV T t v):Keyed P t∧∀(G:Gh) (w:World) (u:Value),vr G w v u→∃l,keyOf P t u=some l:=by
 obtain⟨hm,hagg,hflat,la,hl⟩:=h
 obtain⟨hk,htl,hkt,h60⟩:=hT.2.2 t hm
 obtain⟨la',rfl,hko,hc⟩:=litK_out hT 60 t _ _ hl
 obtain⟨_,_,d,_,_,_,_,_,h6,h7⟩:=hT.at hko
 have hlits:∀(G:Gh) (w:World) (us:List Value),CellsR G w (keyC v) us→P.keyLits (P.types.size + 1) t us=some la':=fun G w us hu=>keyLits_mono (hc G w us hu hk) h60
 by_cases ha:aggV v=true
 ·obtain⟨cs,rfl⟩:∃cs,v=.agg cs:=by cases v<;>simp[aggV]at ha;exact⟨_,rfl⟩
  rw[ha]at hagg
  have hwide:(match P.underlying t with|some (.array _ _)|some (.struct _)=>true|_=>false)=true:=by
   rw[h6]
   generalize (T t).k=k at hagg h7
   cases k<;>simp[isAgg]at hagg
   ·obtain⟨_,rfl,_⟩:=h7;rfl
   ·simp only[DescOk]at h7;subst h7;rfl
  refine⟨Keyed.of_law (deep_law (m:=60) (by omega) hk htl hwide),fun G w u hu=>?_⟩
  cases hu with
  | agg _ us hl' hv=>
   have hks:=hlits G w us ⟨hl',hv⟩
   have hlen:us.length=P.cellsOf t:=by
    unfold Program.keyLits at hks
    rw[h6]at hks
    rw[h6]at hwide
    cases d<;>simp at hwide<;>simp only at hks<;>split at hks<;>first|(rename_i hh;first|exact hh|exact hh.1)|cases hks
   have hfm:(Value.agg us.toArray).formed P t=true:=by
    rw[h6]at hwide
    cases d<;>simp at hwide<;>simp[Value.formed,h6,hlen]
   refine⟨.string (keyBytes la'),?_⟩
   unfold keyOf
   rw[h6]at hwide ⊢
   cases d<;>simp at hwide<;>simp[hkt,hfm,Value.cells,hks]
 ·have ha:aggV v=false:=by simpa using ha
  rw[ha]at hagg
  have hkc:keyC v=[v]:=by cases v<;>first|rfl|simp[aggV]at ha
  rw[hkc]at hlits
  have hone:∀(G:Gh) (w:World) (u:Value),vr G w v u→P.keyLits (P.types.size + 1) t [u]=some la':=fun G w u hu=>hlits G w [u] ⟨rfl,fun j v' u' h1 h2=>by
   cases j with
   | zero=>simp at h1 h2;subst h1;subst h2;exact hu
   | succ j=>simp at h1⟩
  have hd:(d=.bool∨d=.string∨∃q,d=.int q):=by
   unfold Program.keyTypeAt at hk
   rw[h6]at hk
   generalize (T t).k=k at hagg h7 hko
   cases d<;>simp at hk<;>first|exact .inl rfl|exact .inr (.inl rfl)|exact .inr (.inr ⟨_,rfl⟩)|skip
   ·exfalso
    cases k<;>simp[DescOk]at h7<;>first|exact absurd rfl hko|(simp[isAgg]at hagg;done)
   ·exfalso
    cases k<;>simp[DescOk]at h7<;>first|exact absurd rfl hko|(simp[isAgg]at hagg;done)
  rcases hd with rfl|rfl|⟨q,rfl⟩
  ·refine⟨bool_keyed h6,fun G w u hu=>?_⟩
   have:=hone G w u hu
   unfold Program.keyLits at this
   rw[h6]at this
   cases u<;>simp at this
   rename_i b0
   exact⟨.bool b0,by simp[keyOf,h6,mapKey]⟩
  ·refine⟨string_keyed h6,fun G w u hu=>?_⟩
   have:=hone G w u hu
   unfold Program.keyLits at this
   rw[h6]at this
   cases u<;>simp at this
   rename_i bs
   refine⟨.string bs.data.toList,?_⟩
   simp only[keyOf,h6,mapKey]
   rw[if_pos this.1]
  ·refine⟨int_keyed h6,fun G w u hu=>?_⟩
   have:=hone G w u hu
   unfold Program.keyLits at this
   rw[h6]at this
   cases u<;>simp at this
   rename_i q' n
   refine⟨.int q n,?_⟩
   simp only[keyOf,h6,mapKey]
   rw[if_pos this.1]
theorem flat_eq {v:V} (h:flatC v=true) {G G':Gh} {w w':World} {u u':Value} (h1:vr G w v u) (h2:vr G' w' v u'):u=u':=by
 cases v<;>simp[flatC]at h<;>cases h1<;>cases h2<;>rfl
theorem flat_inj {v v':V} (h:flatC v=true) (h':flatC v'=true) {G G':Gh} {w w':World} {u:Value} (h1:vr G w v u) (h2:vr G' w' v' u):v=v':=by
 cases v<;>simp[flatC]at h<;>cases v'<;>simp[flatC]at h'<;>cases h1<;>cases h2<;>rfl
theorem KeyV.fun_ {t:Nat} {v:V} (h:KeyV T t v) {G G':Gh} {w w':World} {u u':Value} (h1:vr G w v u) (h2:vr G' w' v u'):u=u':=by
 obtain⟨_,_,hf,_⟩:=h
 by_cases ha:∃cs,v=.agg cs
 ·obtain⟨cs,rfl⟩:=ha
  simp only[keyC,List.all_eq_true]at hf
  cases h1 with
  | agg _ us hl hv=>
   cases h2 with
   | agg _ us' hl' hv'=>
    congr 2
    refine List.ext_getElem (by omega) fun j q1 q2=>?_
    have q3:j < cs.length:=by omega
    exact flat_eq (hf _ (List.getElem_mem q3)) (hv j _ _ (List.getElem?_eq_getElem q3) (List.getElem?_eq_getElem q1)) (hv' j _ _ (List.getElem?_eq_getElem q3) (List.getElem?_eq_getElem q2))
 ·have:keyC v=[v]:=by cases v<;>first|rfl|exact absurd ⟨_,rfl⟩ ha
  rw[this]at hf
  exact flat_eq (by simpa using hf) h1 h2
theorem KeyV.inj {t:Nat} {v v':V} (h:KeyV T t v) (h':KeyV T t v') {G G':Gh} {w w':World} {u:Value} (h1:vr G w v u) (h2:vr G' w' v' u):v=v':=by
 obtain⟨_,ha,hf,_⟩:=h
 obtain⟨_,ha',hf',_⟩:=h'
 rw[← ha']at ha
 by_cases hx:∃cs,v=.agg cs
 ·obtain⟨cs,rfl⟩:=hx
  obtain⟨cs',rfl⟩:∃cs',v'=.agg cs':=by cases v'<;>simp[aggV]at ha;exact⟨_,rfl⟩
  simp only[keyC,List.all_eq_true]at hf hf'
  cases h1 with
  | agg _ us hl hv=>
   generalize hg:(Value.agg us.toArray)=ug at h2
   cases h2 with
   | agg _ us' hl' hv'=>
    have:us=us':=by simpa using hg
    subst this
    congr 1
    refine List.ext_getElem (by omega) fun j q1 q2=>?_
    have q3:j < us.length:=by omega
    exact flat_inj (hf _ (List.getElem_mem q1)) (hf' _ (List.getElem_mem q2)) (hv j _ _ (List.getElem?_eq_getElem q1) (List.getElem?_eq_getElem q3)) (hv' j _ _ (List.getElem?_eq_getElem q2) (List.getElem?_eq_getElem q3))
 ·have e:keyC v=[v]:=by cases v<;>first|rfl|exact absurd ⟨_,rfl⟩ hx
  have e':keyC v'=[v']:=by
   cases v'<;>first|rfl|skip
   exfalso
   cases v<;>simp[aggV]at ha
   exact hx ⟨_,rfl⟩
  rw[e]at hf
  rw[e']at hf'
  exact flat_inj (by simpa using hf) (by simpa using hf') h1 h2
theorem csz_putO {w:World} {c:Nat} {o0 o':Obj} (hg:w.heap[c]? = some o0) (hn:∀m,csz w c ≠ some m) {c' m:Nat} (h:csz w c'=some m):csz (w.putObj c o') c'=some m:=by
 by_cases e:c'=c
 ·subst e;exact absurd h (hn m)
 ·unfold csz at h ⊢
  rw[World.putObj_heap_other e];exact h
theorem EvoA.putO {G:Gh} {w:World} {c:Nat} {o0 o':Obj} (hg:w.heap[c]? = some o0) (hn:∀m,csz w c ≠ some m) (ha:¬ G.amb c) {b:Nat} (hb:G.ι b=some c):EvoA G w G (w.putObj c o'):=fun base=>
  ⟨rfl,rfl,rfl,by simp[World.putObj],rfl,fun _ hc=>hc,fun c' hc=>World.putObj_heap_other (fun e=>ha (e▸hc)),fun _ _ hm=>csz_putO hg hn hm,fun _ _ _ hc=>hc,
   fun c' _ hn=>World.putObj_heap_other (fun e=>hn b (e▸hb)),fun _ h _=>.inl h,fun b _ h _=>⟨b,h⟩⟩
theorem HR.putO {G:Gh} {hp:Heap} {n:Nat} {w:World} (h:HR G hp n w) {b c:Nat} {blk:Blk} (hb:hget hp b=some blk) (hc:G.ι b=some c) {o0 o':Obj}
  (hg:w.heap[c]? = some o0) (hn:∀m,csz w c ≠ some m) (blk':Blk) (hok:BlkOk G (w.putObj c o') b blk'):HR G ((b,some blk') :: hp) n (w.putObj c o'):=by
 have he:EvoA G w G (w.putObj c o'):=EvoA.putO hg hn (h.apart b blk c hb hc) hc
 have live:∀{b' k},hget ((b,some blk') :: hp) b'=some k→∃k',hget hp b'=some k':=by
  intro b' k hk
  rw[hget_cons]at hk
  split at hk
  ·rename_i e;subst e;exact⟨_,hb⟩
  ·exact⟨k,hk⟩
 have hsz:(w.putObj c o').heap.size=w.heap.size:=by simp[World.putObj]
 refine⟨fun c hc=>by rw[hsz];exact h.amb_lt c hc,by rw[hsz];exact h.B_le,h.dom,fun b' k hk=>?_,fun b1 b2 k1 k2 c' h1 h2 h3 h4=>?_,fun b' k c' hk hc'=>?_,fun b' c' hc'=>by rw[hsz];exact h.lt b' c' hc',fun b' k hk=>?_,h.gl.evo (he 0)⟩
 ·rw[hget_cons]at hk
  split at hk
  ·rename_i e;subst e;cases hk;exact hok
  ·rename_i e
   refine(h.own b' k hk).keep he (fun c' hc'=>World.putObj_heap_other ?_) (fun hn=>hn)
   rintro rfl
   exact e (h.inj b b' _ _ _ hb hk hc hc')
 ·obtain⟨_,g1⟩:=live h1
  obtain⟨_,g2⟩:=live h2
  exact h.inj b1 b2 _ _ c' g1 g2 h3 h4
 ·obtain⟨_,g1⟩:=live hk
  exact h.apart b' _ c' g1 hc'
 ·obtain⟨_,g1⟩:=live hk
  exact h.hdom b' _ g1
theorem csz_map {w:World} {c:Nat} {arr:Array MapEntry} {clk:Nat} (h:w.heap[c]? = some (.map arr clk)):∀m,csz w c ≠ some m:=fun m hm=>by
 unfold csz at hm;rw[h]at hm;cases hm
theorem find_out (hT:TabOk P T) {kt:Nat} {key:V} {es:List (V × V)} (hk:KeyV T kt key) (hks:KeysV T kt es) {G:Gh} {w:World} {arr:Array MapEntry} {clk:Nat} (hok:EntOk arr clk) (hl:es.length=arr.toList.length)
  (hes:∀(j:Nat) (kv:V × V) (e:MapEntry),es[j]? = some kv→arr.toList[j]? = some e→vr G w kv.1 e.key∧vr G w kv.2 e.val) {u:Value} (hu:vr G w key u) :
  (∀em,(Instr.checkKey em 10000 kt u).run P w=.ok () w)∧(Instr.keyThatStays u u).run P w=.ok u w∧(∀r,MPos es key r→match r with
   | none=>(Instr.findKey kt u arr.toList).run P w=.ok none w∧∀e∈arr.toList,e.key ≠ u
   | some i=>∃e,arr.toList[i]? = some e∧e.key=u∧(Instr.findKey kt u arr.toList).run P w=.ok (some (i,e.val)) w):=by
 obtain⟨hK,hlit⟩:=hk.out hT
 obtain⟨lx,hlx⟩:=hlit G w u hu
 have hall:∀e∈arr.toList,∃l,keyOf P kt e.key=some l:=by
  intro e he
  obtain⟨j,hj,rfl⟩:=List.mem_iff_getElem.1 he
  have hj':j < es.length:=by omega
  exact((hks _ (List.getElem_mem hj')).out hT).2 G w _ (hes j _ _ (List.getElem?_eq_getElem hj') (List.getElem?_eq_getElem hj)).1
 refine⟨fun em=>hK.check w em hlx,hK.stays w hlx,fun r hr=>?_⟩
 cases r with
 | none=>
  have hne:∀e∈arr.toList,e.key ≠ u:=by
   intro e he hc
   obtain⟨j,hj,rfl⟩:=List.mem_iff_getElem.1 he
   have hj':j < es.length:=by omega
   have h1:=(hes j _ _ (List.getElem?_eq_getElem hj') (List.getElem?_eq_getElem hj)).1
   rw[hc]at h1
   exact hr _ (List.getElem_mem hj') ((hks _ (List.getElem_mem hj')).inj hk h1 hu)
  rcases hK.find w hlx arr.toList hall with⟨h1,_⟩|⟨j,e,_,h2,h3⟩
  ·exact⟨h1,hne⟩
  ·exact absurd h3 (hne e (List.mem_of_getElem? h2))
 | some i=>
  obtain⟨v,hi⟩:=hr
  have hi':i < arr.toList.length:=by rw[← hl];exact(List.getElem?_eq_some_iff.1 hi).1
  have h1:=(hes i _ _ hi (List.getElem?_eq_getElem hi')).1
  have hkey:arr.toList[i].key=u:=hk.fun_ h1 hu
  refine⟨_,List.getElem?_eq_getElem hi',hkey,?_⟩
  rcases hK.find w hlx arr.toList hall with⟨_,h2⟩|⟨j,e,h1,h2,h3⟩
  ·exact absurd hkey (h2 _ (List.getElem_mem hi'))
  ·have hij:i=j:=by
    have hnd:=hok.2.2
    have hj:j < arr.toList.length:=(List.getElem?_eq_some_iff.1 h2).1
    have e2:arr.toList[j]=e:=(List.getElem?_eq_some_iff.1 h2).2
    rcases Nat.lt_trichotomy i j with h|h|h
    ·exfalso
     have:=List.pairwise_iff_getElem.1 hnd i j (by simpa using hi') (by simpa using hj) h
     simp only[List.getElem_map]at this
     exact this (by rw[hkey,e2,h3])
    ·exact h
    ·exfalso
     have:=List.pairwise_iff_getElem.1 hnd j i (by simpa using hj) (by simpa using hi') h
     simp only[List.getElem_map]at this
     exact this (by rw[hkey,e2,h3])
   subst hij
   have:e=arr.toList[i]:=((List.getElem?_eq_some_iff.1 h2).2).symm
   rw[h1,this]
theorem MVal.pos {es:List (V × V)} {key:V} {r:Option V} (h:MVal es key r):(r=none∧MPos es key none)∨∃v i,r=some v∧es[i]? = some (key,v)∧MPos es key (some i):=by
 cases r with
 | none=>exact .inl ⟨rfl,h⟩
 | some v=>obtain⟨i,hi⟩:=h;exact .inr ⟨v,i,rfl,hi,v,hi⟩
theorem zeroK_out (hT:TabOk P T) {t:Nat} {K:V→Prop} (h:zeroK (T t) K):∃v,K v∧∀(G:Gh) (w:World),∃u,(zeroValue t).run P w=.ok u w∧vr G w v u:=by
 unfold zeroK at h
 obtain⟨cs,h,hl,h1,hv⟩:=constsK_out h
 obtain⟨h',hko⟩:=szK_out h
 clear h
 have h:=h'
 clear h'
 rcases hT.1 t with⟨i,z,hi,hsz,hby,hz,hzc,d,h6,h7,hzl,hza⟩|hx
 rotate_left
 ·exact absurd hx hko
 have hz':∀w,(zeroValue t).run P w=.ok z w:=fun w=>by simp[zeroValue,typeInfo,hi,hz]
 split at h
 ·rename_i hlen
  split at h
  ·rename_i ha
   rw[ha]at hza
   refine⟨_,h,fun G w=>⟨z,hz' w,?_⟩⟩
   have hvs:=hv G w
   rw[← hzc]at hvs
   cases z<;>simp[zAgg]at hza
   rename_i us
   have:=VR.agg (ι:=G.ι) (csz:=csz w) (imm:=imm G w) cs us.toList hvs.1 hvs.2
   simpa using this
  ·rename_i ha
   rw[ha]at hza
   rcases cs with _|⟨v,_|⟨v2,r⟩⟩
   ·exact h.elim
   ·refine⟨v,h,fun G w=>⟨z,hz' w,?_⟩⟩
    have hvs:=hv G w
    rw[← hzc]at hvs
    have hzc':z.cells=#[z]:=by cases z<;>first|rfl|(simp[zAgg]at hza)
    rw[hzc']at hvs
    exact hvs.2 0 v z rfl rfl
   ·exact h.elim
 ·exact h.elim
theorem lt_of_heap' {w:World} {r:Nat} {o:Obj} (h:w.heap[r]? = some o):r < w.heap.size:=(Array.getElem?_eq_some_iff.1 h).1
theorem ex_makeMap (hT:TabOk P T) {t:TypeId} {r:Option Operand} (ho:o.op=.makeMap t r) (h:exec T s g o K):ExOk P s g o K:=by
 simp only[exec,ho]at h
 split at h
 ·rename_i kt et hk hr
  rw[forceN_eq]at h
  obtain⟨_,_,d,_,_,_,_,_,h6,h7⟩:=hT.at (t:=t) (by rw[hk];simp)
  rw[hk,DescOk]at h7
  subst h7
  refine⟨_,_,_,_,h,.new (.nil _),fun _=>⟨Nat.le_succ _,fun G N a w s' hs ha hrd hn=>?_⟩,fun hg=>absurd rfl hg⟩
  have hi:G.ι s.nx=none:=hn s.nx (Nat.le_refl _) (Nat.lt_succ_self _)
  refine⟨.map (some w.heap.size),w.alloc (.map #[] 0),G.with s.nx (some w.heap.size),.inl ?_,.mapp _ _ (Gh.with_self _ _ _),?_,fun b hb=>Gh.with_other _ (by omega) _,EvoA.alloc hs.hr _ _ hi⟩
  ·unfold resvOk at hr
   have hno:(newObj (.map #[] 0)).run P w=.ok w.heap.size (w.alloc (.map #[] 0)):=rfl
   split at hr
   ·simp only[execOp,ho,Instr.makeMap,Option.map_none,Sem.run_bind,hno,Result.andThen_ok,Sem.run_pure]
   ·simp only[execOp,ho,Instr.makeMap,Option.map_some,Sem.run_bind,run_underlying h6,Act.eval,asInt,hno,Result.andThen_ok,Sem.run_pure]
    rfl
   ·cases hr
  ·have:=HR.alloc hs.hr (.map #[] 0) s.nx hi (.map []) ⟨_,#[],0,Gh.with_self _ _ _,World.alloc_heap_new _ _,⟨by simp,by simp,by simp⟩,rfl,by simp⟩
   simpa using this
 ·exact h.elim
theorem EntOk.push {arr:Array MapEntry} {clk:Nat} (h:EntOk arr clk) {key val:Value} (hk:∀e∈arr.toList,e.key ≠ key):EntOk (arr.push { key,val,born:=clk }) (clk + 1):=by
 obtain⟨h1,h2,h3⟩:=h
 refine⟨?_,fun e he=>?_,?_⟩
 ·rw[Array.toList_push,List.map_append,List.pairwise_append]
  refine⟨h1,by simp,fun a ha b hb=>?_⟩
  obtain⟨e,he,rfl⟩:=List.mem_map.1 ha
  simp at hb
  subst hb
  have:=h2 e he
  omega
 ·rw[Array.toList_push,List.mem_append]at he
  rcases he with he|he
  ·have:=h2 e he;omega
  ·simp at he;subst he;simp
 ·rw[Array.toList_push,List.map_append,List.pairwise_append]
  refine⟨h3,by simp,fun a ha b hb=>?_⟩
  obtain⟨e,he,rfl⟩:=List.mem_map.1 ha
  simp at hb
  subst hb
  exact hk e he
theorem EntOk.modify {arr:Array MapEntry} {clk:Nat} (h:EntOk arr clk) {i:Nat} {key val:Value} (hk:∀e,arr.toList[i]? = some e→e.key=key):EntOk (arr.modify i fun e=>{ e with key,val }) clk:=by
 have hb:(arr.modify i fun e=>{ e with key,val }).toList.map (·.born)=arr.toList.map (·.born):=by
  apply List.ext_getElem
  ·simp
  ·intro j h1 h2
   simp only[List.getElem_map,Array.getElem_toList,Array.getElem_modify]
   split<;>rfl
 have hkk:(arr.modify i fun e=>{ e with key,val }).toList.map (·.key)=arr.toList.map (·.key):=by
  apply List.ext_getElem
  ·simp
  ·intro j h1 h2
   simp only[List.getElem_map,Array.getElem_toList,Array.getElem_modify]
   split
   ·rename_i e
    subst e
    simp at h2
    have:=hk arr[i] (by simp[h2])
    simp[this]
   ·rfl
 obtain⟨h1,h2,h3⟩:=h
 refine⟨by rw[hb];exact h1,fun e he=>?_,by rw[hkk];exact h3⟩
 have:e.born∈(arr.modify i fun e=>{ e with key,val }).toList.map (·.born):=List.mem_map_of_mem he
 rw[hb]at this
 obtain⟨e',he',hb'⟩:=List.mem_map.1 this
 rw[← hb'];exact h2 e' he'
theorem ex_mapUpdate (hT:TabOk P T) {t:TypeId} {m k v:Operand} (ho:o.op=.mapUpdate t m k v∨o.op=.insert t m k v) (h:exec T s g o K):ExOk P s g o K:=by
 have h':mupK T s g t m k v K:=by
  rcases ho with ho|ho<;>simp only[exec,ho]at h<;>exact h
 clear h
 have hops:m∈o.op.operands∧k∈o.op.operands∧v∈o.op.operands:=by rcases ho with ho|ho<;>simp[ho,Op.operands]
 unfold mupK at h'
 split at h'
 ·rename_i kt et b hk hm
  split at h'
  ·rename_i es hb
   simp only[forceV_eq]at h'
   obtain⟨hks,hkey,r,hr,hK⟩:=h'
   obtain⟨_,_,d,_,_,_,_,_,h6,h7⟩:=hT.at (t:=t) (by rw[hk];simp)
   rw[hk,DescOk]at h7
   subst h7
   refine⟨_,_,_,_,hK,.cons (.inl hb) (.nil _),fun _=>⟨Nat.le_refl _,fun G N a w s' hs ha hrd hn=>?_⟩,fun hg=>absurd rfl hg⟩
   have hvm:=ev_vr hs m (otm o hops.1 ha)
   have hvk:=ev_vr hs k (otm o hops.2.1 ha)
   have hvv:=ev_vr hs v (otm o hops.2.2 ha)
   rw[hm]at hvm
   generalize hum:a.eval m=um at hvm
   generalize huk:a.eval k=uk at hvk
   generalize huv:a.eval v=uv at hvv
   cases hvm with
   | mapp _ c hι=>
    have hb':hget s'.h b=some (.map es):=hrd b _ (by simp)
    obtain⟨c',arr,clk,h1,h2,h3,h4,h5⟩:MapH G w b es:=hs.hr.own b (.map es) hb'
    rw[hι]at h1
    obtain rfl:c=c':=Option.some.inj h1
    have hap:=hs.hr.apart b _ c hb' hι
    obtain⟨f1,f2,f3⟩:=find_out hT hkey hks h3 h4 h5 hvk
    have fin:∀(arr':Array MapEntry) (clk':Nat),(Instr.mapUpdate t (.map (some c)) uk uv).run P w=.ok () (w.putObj c (.map arr' clk'))→MapH G (w.putObj c (.map arr' clk')) b (mput es (ev s k) (ev s v) r) →
      ∃u w' G',Yields P a o w u w'∧vr G' w' .any u∧HR G' ([(b,some (.map (mput es (ev s k) (ev s v) r)))]++ s'.h) (max s'.nx s.nx) w'∧(∀b,(b < s.nx∨s.nx≤b)→G'.ι b=G.ι b)∧EvoA G w G' w':=by
     intro arr' clk' hrun hok
     refine⟨undef,_,G,.inr ⟨?_,rfl⟩,.any _,(HR.putO hs.hr hb' hι h2 (csz_map h2) (.map (mput es (ev s k) (ev s v) r)) hok).more (Nat.le_max_left _ _),fun _ _=>rfl,EvoA.putO h2 (csz_map h2) hap hι⟩
     rcases ho with ho|ho<;>simp only[execOp,ho,hum,huk,huv,Sem.run_bind,hrun,Result.andThen_ok,Sem.run_pure]
    have hlt:=lt_of_heap' h2
    have he:EvoA G w G (w.putObj c (.map #[] 0)):=EvoA.putO h2 (csz_map h2) hap hι
    have hev:∀(o':Obj) {v:V} {u:Value},vr G w v u→vr G (w.putObj c o') v u:=fun o' _ _ hv=>(EvoA.putO (o':=o') h2 (csz_map h2) hap hι).vr hv
    have hr':=f3 r hr
    cases r with
    | none=>
     obtain⟨q1,q2⟩:=hr'
     refine fin (arr.push { key:=uk,val:=uv,born:=clk }) (clk + 1) ?_ ⟨c,_,_,hι,World.putObj_heap_same hlt,h3.push q2,by simp[mput,h4],fun j kv e g1 g2=>?_⟩
     ·simp only[Instr.mapUpdate,Sem.run_bind,run_underlying h6,Result.andThen_ok,Go.MapKept.run_getObj_map h2,f1 false,q1]
      simp only[Go.MapKept.run_setObj_map _ h2,World.putObj]
     ·rw[Array.toList_push]at g2
      simp only[mput]at g1
      rcases Nat.lt_or_ge j es.length with hj|hj
      ·rw[List.getElem?_append_left hj]at g1
       rw[List.getElem?_append_left (by omega)]at g2
       exact⟨hev _ (h5 j kv e g1 g2).1,hev _ (h5 j kv e g1 g2).2⟩
      ·rw[List.getElem?_append_right hj]at g1
       rw[List.getElem?_append_right (by omega),← h4]at g2
       cases hj2:j - es.length with
       | zero=>
        rw[hj2]at g1 g2
        simp at g1 g2
        subst g1;subst g2
        exact⟨hev _ hvk,hev _ hvv⟩
       | succ n=>rw[hj2]at g1;simp at g1
    | some i=>
     obtain⟨e0,q1,q2,q3⟩:=hr'
     have hil:i < arr.toList.length:=(List.getElem?_eq_some_iff.1 q1).1
     refine fin (arr.modify i fun e=>{ e with key:=uk,val:=uv }) clk ?_ ⟨c,_,_,hι,World.putObj_heap_same hlt,h3.modify (fun e he=>by rw[q1]at he;cases he;exact q2),by simp[mput,h4],fun j kv e g1 g2=>?_⟩
     ·have hgd:((arr[i]?).map (·.key)).getD uk=uk:=by
       have:arr[i]? = some e0:=by simpa using q1
       rw[this];simpa using q2
      simp only[Instr.mapUpdate,Sem.run_bind,run_underlying h6,Result.andThen_ok,Go.MapKept.run_getObj_map h2,f1 false,q3,hgd,f2]
      simp only[Go.MapKept.run_setObj_map _ h2,World.putObj]
     ·simp only[mput]at g1
      rw[List.getElem?_set]at g1
      rw[Array.toList_modify,List.getElem?_modify]at g2
      by_cases hij:i=j
      ·subst hij
       rw[if_pos rfl,if_pos (by omega)]at g1
       cases g1
       rw[q1]at g2
       simp at g2
       subst g2
       exact⟨hev _ hvk,hev _ hvv⟩
      ·rw[if_neg hij]at g1
       simp only[if_neg hij]at g2
       have g2':arr.toList[j]? = some e:=by
        cases hx:arr.toList[j]? with
        | none=>rw[hx]at g2;simp at g2
        | some y=>rw[hx]at g2;simpa using g2
       exact⟨hev _ (h5 j kv e g1 g2').1,hev _ (h5 j kv e g1 g2').2⟩
  ·exact h'.elim
 ·exact h'.elim
theorem okK_out {ok:Bool} {v:V} {b:Bool} {K:V→Prop} (h:okK ok v b K):∃v',K v'∧∀(G:Gh) (w:World) (u:Value),vr G w v u→vr G w v' (if ok then .tuple #[u,.bool b]else u):=by
 cases ok with
 | true=>exact⟨_,h,fun G w u hu=>.tup [v,.bool b] [u,.bool b] rfl fun j v' u' h1 h2=>by
   match j,h1,h2 with
   | 0,h1,h2=>cases h1;cases h2;exact hu
   | 1,h1,h2=>cases h1;cases h2;exact .bool _⟩
 | false=>exact⟨_,h,fun G w u hu=>hu⟩
def lookS (kt et:TypeId) (u:Value) (es:List MapEntry) (ok:Bool):Sem Value:=do
 let (v,b) ← match ← Instr.findKey kt u es with
  | some (_,v)=>pure (v,true)
  | none=>pure (← zeroValue et,false)
 pure (if ok then .tuple #[v,.bool b]else v)
theorem lookup_run {t kt et:TypeId} (h6:P.underlying t=some (.map kt et)) {x u:Value} {arr:Array MapEntry} {ok:Bool} {w:World} (hx:(x=.map none∧arr=#[])∨∃c clk,x=.map (some c)∧w.heap[c]? = some (.map arr clk)) (hc:∀em,(Instr.checkKey em 10000 kt u).run P w=.ok () w) :
  (Instr.lookup t x u ok).run P w=(lookS kt et u arr.toList ok).run P w:=by
 rcases hx with⟨rfl,rfl⟩|⟨c,clk,rfl,hh⟩
 ·simp only[Instr.lookup,lookS,Sem.run_bind,run_underlying h6,Result.andThen_ok,Sem.run_pure,hc]
  cases(Instr.findKey kt u ([]:List MapEntry)).run P w with
  | halt=>rfl
  | ok a w=>cases a<;>rfl
 ·simp only[Instr.lookup,lookS,Sem.run_bind,run_underlying h6,Result.andThen_ok,Sem.run_pure,Go.MapKept.run_getObj_map hh,hc]
  cases(Instr.findKey kt u arr.toList).run P w with
  | halt=>rfl
  | ok a w=>cases a<;>rfl
theorem ex_lookup (hT:TabOk P T) {t:TypeId} {x i:Operand} {ok:Bool} (ho:o.op=.lookup t x i ok) (h:exec T s g o K):ExOk P s g o K:=by
 simp only[exec,ho]at h
 split at h
 ·rename_i kt et hk
  obtain⟨_,_,d,_,_,_,_,_,h6,h7⟩:=hT.at (t:=t) (by rw[hk];simp)
  rw[hk,DescOk]at h7
  subst h7
  obtain⟨a,h,hva⟩:=argK_out h
  obtain⟨iv,h,hvi⟩:=argK_out h
  rw[forceV_eq]at h
  obtain⟨es,rd,h,hrd,hes⟩:=esK_out h
  obtain⟨hks,hkey,r,hr,h⟩:=h
  obtain⟨hKd,hlit⟩:=hkey.out hT
  have main:∀(val:V),K val rd [] s.nx→(∀(G:Gh) (w:World) (arr:Array MapEntry) (clk:Nat),EntOk arr clk→es.length=arr.toList.length→(∀(j:Nat) (kv:V × V) (e:MapEntry),es[j]? = some kv→arr.toList[j]? = some e→vr G w kv.1 e.key∧vr G w kv.2 e.val)→∀u,vr G w iv u →
    ∃res,(lookS kt et u arr.toList ok).run P w=.ok res w∧vr G w val res)→ExOk P s g o K:=by
   intro val hK hval
   refine .of_pure (rd:=rd) hK (fun hg G N act w s' hs ha hr'=>?_) hrd
   have hx:=hva hg G w _ (ev_vr hs x (otm o (by simp[ho,Op.operands]) ha))
   have hi:=hvi hg G w _ (ev_vr hs i (otm o (by simp[ho,Op.operands]) ha))
   obtain⟨lx,hlx⟩:=hlit G w _ hi
   rcases hes G N act w s' hs hr' _ hx with⟨rfl,hux⟩|⟨c,arr,clk,hux,hh,hok,hl,hev⟩
   ·obtain⟨res,hres,hv⟩:=hval G w #[] 0 ⟨by simp,by simp,by simp⟩ rfl (by simp) _ hi
    refine⟨res,?_,hv⟩
    simp only[execOp,ho,hux,Sem.run_bind]
    rw[lookup_run (et:=et) h6 (.inl ⟨rfl,rfl⟩) (fun em=>hKd.check w em hlx),hres]
    rfl
   ·obtain⟨res,hres,hv⟩:=hval G w arr clk hok hl hev _ hi
    refine⟨res,?_,hv⟩
    simp only[execOp,ho,hux,Sem.run_bind]
    rw[lookup_run (et:=et) h6 (.inr ⟨c,clk,rfl,hh⟩) (fun em=>hKd.check w em hlx),hres]
    rfl
  rcases hr.pos with⟨rfl,hp⟩|⟨v,j,rfl,hj,hp⟩
  ·obtain⟨z,h,hz⟩:=zeroK_out hT h
   obtain⟨val,hK,hval⟩:=okK_out h
   refine main val hK fun G w arr clk hok hl hev u hu=>?_
   obtain⟨f1,f2,f3⟩:=find_out hT hkey hks hok hl hev hu
   obtain⟨q1,_⟩:=f3 none hp
   obtain⟨uz,hz1,hz2⟩:=hz G w
   refine⟨_,?_,hval G w uz hz2⟩
   simp only[lookS,Sem.run_bind,q1,Result.andThen_ok,hz1,Sem.run_pure]
  ·obtain⟨val,hK,hval⟩:=okK_out h
   refine main val hK fun G w arr clk hok hl hev u hu=>?_
   obtain⟨f1,f2,f3⟩:=find_out hT hkey hks hok hl hev hu
   obtain⟨e,q1,q2,q3⟩:=f3 (some j) hp
   refine⟨_,?_,hval G w e.val (hev j _ e hj q1).2⟩
   simp only[lookS,Sem.run_bind,q3,Result.andThen_ok,Sem.run_pure]
 ·exact h.elim
theorem ex_delete (hT:TabOk P T) {c:Call} (ho:o.op=.call c) (hc:c.callee=.builtin .delete) (h:exec T s g o K):ExOk P s g o K:=by
 simp only[exec,ho,hc]at h
 split at h
 ·rename_i m k t tt hx ht
  have hargs:c.args=#[m,k]:=by apply Array.ext';simp[hx]
  have htys:c.argTypes=#[t,tt]:=by apply Array.ext';simp[ht]
  have hmm:m∈o.op.operands∧k∈o.op.operands:=by rw[ho];simp[Op.operands,Call.operands,hc,hargs]
  split at h
  ·rename_i kt et b hk hm
   split at h
   ·rename_i es hb
    rw[forceV_eq]at h
    obtain⟨hks,hkey,r,hr,hK⟩:=h
    obtain⟨_,_,d,_,_,_,_,_,h6,h7⟩:=hT.at (t:=t) (by rw[hk];simp)
    rw[hk,DescOk]at h7
    subst h7
    refine⟨_,_,_,_,hK,.cons (.inl hb) (.nil _),fun _=>⟨Nat.le_refl _,fun G N a w s' hs ha hrd hn=>?_⟩,fun hg=>absurd rfl hg⟩
    have hvm:=ev_vr hs m (otm o hmm.1 ha)
    have hvk:=ev_vr hs k (otm o hmm.2 ha)
    rw[hm]at hvm
    generalize hum:a.eval m=um at hvm
    generalize huk:a.eval k=uk at hvk
    cases hvm with
    | mapp _ c' hι=>
     have hb':hget s'.h b=some (.map es):=hrd b _ (by simp)
     obtain⟨c2,arr,clk,h1,h2,h3,h4,h5⟩:MapH G w b es:=hs.hr.own b (.map es) hb'
     rw[hι]at h1
     obtain rfl:c'=c2:=Option.some.inj h1
     have hap:=hs.hr.apart b _ c' hb' hι
     obtain⟨f1,f2,f3⟩:=find_out hT hkey hks h3 h4 h5 hvk
     have fin:∀(arr':Array MapEntry) (clk':Nat),(Builtin.delete_ #[t,tt] o.type #[.map (some c'),uk]).run P w=.ok (.tuple #[]) (w.putObj c' (.map arr' clk'))→MapH G (w.putObj c' (.map arr' clk')) b (mdel es r) →
       ∃u w' G',Yields P a o w u w'∧vr G' w' (.tup []) u∧HR G' ([(b,some (.map (mdel es r)))]++ s'.h) (max s'.nx s.nx) w'∧(∀b,(b < s.nx∨s.nx≤b)→G'.ι b=G.ι b)∧EvoA G w G' w':=by
      intro arr' clk' hrun hok
      refine⟨.tuple #[],_,G,.inl ?_,.tup [] [] rfl (by simp),(HR.putO hs.hr hb' hι h2 (csz_map h2) (.map (mdel es r)) hok).more (Nat.le_max_left _ _),fun _ _=>rfl,EvoA.putO h2 (csz_map h2) hap hι⟩
      have:(execOp a.eval o).run P w=((Builtin.delete_ #[t,tt] o.type #[a.eval m,a.eval k]).run P w).andThen fun v w=>.ok (.value v) w:=by
       simp[execOp,ho,resolve,hc,hargs,htys,invoke,builtin]
      rw[this,hum,huk,hrun]
      rfl
     have hlt:=lt_of_heap' h2
     have hev:∀(o':Obj) {v:V} {u:Value},vr G w v u→vr G (w.putObj c' o') v u:=fun o' _ _ hv=>(EvoA.putO (o':=o') h2 (csz_map h2) hap hι).vr hv
     have hr':=f3 r hr
     cases r with
     | none=>
      obtain⟨q1,q2⟩:=hr'
      refine fin arr clk ?_ ⟨c',_,_,hι,World.putObj_heap_same hlt,h3,h4,fun j kv e g1 g2=>⟨hev _ (h5 j kv e g1 g2).1,hev _ (h5 j kv e g1 g2).2⟩⟩
      simp[Builtin.delete_,run_underlying h6,Go.MapKept.run_getObj_map h2,f1,q1,Go.MapKept.run_setObj_map _ h2,World.putObj]
     | some i=>
      obtain⟨e0,q1,q2,q3⟩:=hr'
      have hil:i < arr.toList.length:=(List.getElem?_eq_some_iff.1 q1).1
      have hid:(arr.eraseIdxIfInBounds i).toList=arr.toList.eraseIdx i:=by
       rw[Array.eraseIdxIfInBounds,dif_pos (by simpa using hil)]
       simp
      refine fin (arr.eraseIdxIfInBounds i) clk ?_ ⟨c',_,_,hι,World.putObj_heap_same hlt,?_,by simp only[mdel,hid,List.length_eraseIdx,h4],fun j kv e g1 g2=>?_⟩
      ·simp[Builtin.delete_,run_underlying h6,Go.MapKept.run_getObj_map h2,f1,q3,Go.MapKept.run_setObj_map _ h2,World.putObj]
      ·refine⟨?_,fun e he=>?_,?_⟩
       ·rw[hid];exact h3.1.sublist ((List.eraseIdx_sublist _ _).map _)
       ·rw[hid]at he;exact h3.2.1 e ((List.eraseIdx_sublist _ _).mem he)
       ·rw[hid];exact h3.2.2.sublist ((List.eraseIdx_sublist _ _).map _)
      ·rw[hid]at g2
       simp only[mdel]at g1
       rw[List.getElem?_eraseIdx]at g1 g2
       by_cases hji:j < i
       ·rw[if_pos hji]at g1 g2
        exact⟨hev _ (h5 j kv e g1 g2).1,hev _ (h5 j kv e g1 g2).2⟩
       ·rw[if_neg hji]at g1 g2
        exact⟨hev _ (h5 (j + 1) kv e g1 g2).1,hev _ (h5 (j + 1) kv e g1 g2).2⟩
   ·exact h.elim
  ·exact h.elim
 ·exact h.elim
theorem ex_range (hT:TabOk P T) {t:TypeId} {x:Operand} (ho:o.op=.range t x) (h:exec T s g o K):ExOk P s g o K:=by
 simp only[exec,ho]at h
 split at h
 ·rename_i kt et fr es hk hx
  rw[forceN_eq]at h
  obtain⟨_,_,d,_,_,_,_,_,h6,h7⟩:=hT.at (t:=t) (by rw[hk];simp)
  rw[hk,DescOk]at h7
  subst h7
  refine⟨_,_,_,_,h,.new (.nil _),fun _=>⟨Nat.le_succ _,fun G N a w s' hs ha hrd hn=>?_⟩,fun hg=>absurd rfl hg⟩
  have hi:G.ι s.nx=none:=hn s.nx (Nat.le_refl _) (Nat.lt_succ_self _)
  have hvx:=ev_vr hs x (otm o (by simp[ho,Op.operands]) ha)
  rw[hx]at hvx
  generalize hux:a.eval x=ux at hvx
  cases hvx with
  | imap _ _ c arr clk hc hok hl hkk hvv=>
   have hh:=rd_map.1 hc.1
   have he:=EvoA.alloc hs.hr (.mapIter (some c) clk #[] clk) _ hi
   refine⟨.pointer (some ⟨w.heap.size,0,none⟩),w.alloc (.mapIter (some c) clk #[] clk),G.with s.nx (some w.heap.size),.inl ?_,.ptr _ _ _ (Gh.with_self _ _ _),?_,fun b hb=>Gh.with_other _ (by omega) _,he⟩
   ·have hno:(newObj (.mapIter (some c) clk #[] clk)).run P w=.ok w.heap.size (w.alloc (.mapIter (some c) clk #[] clk)):=rfl
    simp only[execOp,ho,hux,Instr.range,Sem.run_bind,run_underlying h6,Result.andThen_ok,Go.MapKept.run_getObj_map hh,Sem.run_pure,hno]
   ·have:=HR.alloc hs.hr (.mapIter (some c) clk #[] clk) s.nx hi (.iter none es) ⟨_,Gh.with_self _ _ _,.inr ⟨c,arr,clk,fr,#[],List.range arr.toList.length,World.alloc_heap_new _ _,(he 0).imm hc,hok,List.nodup_range,fun j=>?_,by simp[hl],fun k j kv e h1 h2 h3=>?_,fun kv hkv=>by cases hkv⟩⟩
    ·simpa using this
    ·rw[List.mem_range]
     constructor
     ·intro hj;exact⟨_,List.getElem?_eq_getElem hj,by simp⟩
     ·rintro ⟨e,he,_⟩;exact(List.getElem?_eq_some_iff.1 he).1
    ·have hkl:=(List.getElem?_eq_some_iff.1 h1).1
     have:k=j:=by
      have:=(List.getElem?_eq_some_iff.1 h1).2
      simpa using this
     subst this
     exact⟨he.vr (hkk k kv e h2 h3),he.vr (hvv k kv e h2 h3)⟩
 ·rename_i kt et hk hx
  rw[forceN_eq]at h
  obtain⟨_,_,d,_,_,_,_,_,h6,h7⟩:=hT.at (t:=t) (by rw[hk];simp)
  rw[hk,DescOk]at h7
  subst h7
  refine⟨_,_,_,_,h,.new (.nil _),fun _=>⟨Nat.le_succ _,fun G N a w s' hs ha hrd hn=>?_⟩,fun hg=>absurd rfl hg⟩
  have hi:G.ι s.nx=none:=hn s.nx (Nat.le_refl _) (Nat.lt_succ_self _)
  have hvx:=ev_vr hs x (otm o (by simp[ho,Op.operands]) ha)
  rw[hx]at hvx
  generalize hux:a.eval x=ux at hvx
  cases hvx
  refine⟨.pointer (some ⟨w.heap.size,0,none⟩),w.alloc (.mapIter none 0 #[] 0),G.with s.nx (some w.heap.size),.inl ?_,.ptr _ _ _ (Gh.with_self _ _ _),?_,fun b hb=>Gh.with_other _ (by omega) _,EvoA.alloc hs.hr _ _ hi⟩
  ·have hno:(newObj (.mapIter none 0 #[] 0)).run P w=.ok w.heap.size (w.alloc (.mapIter none 0 #[] 0)):=rfl
   simp only[execOp,ho,hux,Instr.range,Sem.run_bind,run_underlying h6,Result.andThen_ok,Sem.run_pure,hno]
  ·have:=HR.alloc hs.hr (.mapIter none 0 #[] 0) s.nx hi (.iter none []) ⟨_,Gh.with_self _ _ _,.inl ⟨rfl,rfl,World.alloc_heap_new _ _⟩⟩
   simpa using this
 ·exact h.elim
theorem ex_entry {x:Operand} (ho:o.op=.entry x) (h:exec T s g o K):ExOk P s g o K:=by
 simp only[exec,ho]at h
 split at h
 ·rename_i b hx
  split at h
  ·rename_i kv rest hb
   refine .of_pure (rd:=_) h (fun hg G N a w s' hs ha hr=>?_) (.cons (.inl hb) (.nil _))
   have hvx:=ev_vr hs x (otm o (by simp[ho,Op.operands]) ha)
   rw[hx]at hvx
   generalize hux:a.eval x=ux at hvx
   cases hvx with
   | ptr _ _ c hι=>
    obtain⟨c',h1,h2⟩:IterH G w b (some kv) rest:=hs.hr.own b (.iter (some kv) rest) (hr b (some (.iter (some kv) rest)) (by simp))
    rw[hι]at h1
    obtain rfl:c=c':=Option.some.inj h1
    rcases h2 with⟨_,h2,_⟩|⟨cm,arr,clk,fr,seen,idx,g2,g3,g4,g5,g6,g7,g8,g9⟩
    ·cases h2
    ·obtain⟨j,e,q1,q2,q3,q4⟩:=g9 kv rfl
     have hseen:∃s0:Array Nat,seen=s0.push e.born:=⟨seen.pop,by
      have:seen.size ≠ 0:=by intro h0;rw[Array.eq_empty_of_size_eq_zero h0]at q2;simp at q2
      rw[Array.back?_eq_getElem?]at q2
      apply Array.ext'
      rw[Array.toList_push,Array.toList_pop]
      have hl:seen.toList ≠ []:=by intro h0;apply this;simpa using congrArg List.length h0
      have hb:seen.toList.getLast? = some e.born:=by rw[List.getLast?_eq_getElem?];simpa using q2
      have hg:seen.toList.getLast hl=e.born:=by rw[List.getLast?_eq_some_getLast hl]at hb;exact Option.some.inj hb
      rw[← hg]
      exact(List.dropLast_concat_getLast hl).symm⟩
     obtain⟨s0,rfl⟩:=hseen
     have hrun:=run_entry_at (P:=P) w c cm clk s0 arr clk e g2 (rd_map.1 g3.1) (List.mem_of_getElem? q1) g4.1
     refine⟨.tuple #[e.key,e.val],by simp only[execOp,ho,hux,Sem.run_bind,hrun,Result.andThen_ok,Sem.run_pure],.tup [kv.1,kv.2] [e.key,e.val] rfl fun j v' u' h1 h2=>?_⟩
     match j,h1,h2 with
     | 0,h1,h2=>cases h1;cases h2;exact q3
     | 1,h1,h2=>cases h1;cases h2;exact q4
  ·exact h.elim
 ·exact h.elim
end
end Go.Proofs.YteogfjpaljbkoaaGreat
