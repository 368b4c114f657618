/- Walks and lemmas on the program of this seat, used by its statements; each theorem bears its own conditions. -/
import Derived.Test.YteplbljjlbdhaacGreatDoorRows
import Derived.WalkKit
import Derived.WalkSpells
import Derived.WalkLawsBesides
import Derived.Deep.QuietTactic
import Derived.BigQuiet
import Derived.Lib.Hide
import Derived.StillTailTactics
import Derived.Deep.RegionWith
import Derived.Deep.Cut
import Derived.Deep.LoopGhost
import Derived.Lib.TrimU
import Derived.Handy
import Derived.OwnWalk
import Derived.Deep.AppendLies
import Derived.Laws.CopyOwn
import Derived.Lib.BufferWrite
import Derived.Laws.Bits128
import Derived.IntWalk
import Derived.Deep.CutRange
import Derived.Deep.RegionHeld3
namespace Go.Proofs.YteplbljjlbdhaacGreatDoor
open Go.RowKit
set_option linter.unusedVariables false
set_option linter.unusedSimpArgs false
set_option linter.unusedSectionVars false
set_option maxHeartbeats 16000000
set_option maxRecDepth 100000
structure Kept (S:List Nat) (w w':World):Prop where
 os:w'.os=w.os
 tape:w'.tape=w.tape
 output:w'.output=w.output
 size:w.heap.size≤w'.heap.size
 block:∀ k,k<w.heap.size→k∉S→w'.heap[k]? = w.heap[k]?
theorem Kept.refl (S:List Nat) (w:World):Kept S w w:=⟨rfl,rfl,rfl,Nat.le_refl _,fun _ _ _=>rfl⟩
theorem Kept.trans {S S':List Nat} {a b c:World} (h:Kept S a b) (k:Kept S' b c) (hs:∀ x∈S',x∈S∨a.heap.size≤x):Kept S a c:=
 ⟨k.os.trans h.os,k.tape.trans h.tape,k.output.trans h.output,Nat.le_trans h.size k.size,fun i hi hn=>by
  rw[k.block i (by have:=h.size;omega) (fun hm=>by rcases hs i hm with h1 | h1;exact hn h1;omega),h.block i hi hn]⟩
theorem Kept.trans' {S:List Nat} {a b c:World} (h:Kept S a b) (k:Kept S b c):Kept S a c:=h.trans k fun _ hx=>.inl hx
theorem Kept.mono {S S':List Nat} {a b:World} (h:Kept S a b) (hs:∀ x∈S,x∈S'):Kept S' a b:=
 ⟨h.os,h.tape,h.output,h.size,fun i hi hn=>h.block i hi fun hm=>hn (hs i hm)⟩
theorem Kept.drew {S:List Nat} {a w:World} (h:Kept S a w):Kept S a w.drew:=⟨h.os,h.tape,h.output,h.size,h.block⟩
theorem Kept.drewN {S:List Nat} {a w:World} (h:Kept S a w) (n:Nat):Kept S a (w.drewN n):=⟨h.os,h.tape,h.output,h.size,h.block⟩
theorem Kept.alloc {S:List Nat} {a w:World} (h:Kept S a w) (o:Obj):Kept S a (w.alloc o):=
 h.trans' ⟨rfl,rfl,rfl,by simp,fun k hk _=>Below.heap_alloc _ _ _ hk⟩
theorem Kept.setCell {S:List Nat} {a w:World} (h:Kept S a w) {p:Addr} (hp:p.block∈S∨a.heap.size≤p.block) (u:Value):Kept S a (w.setCell p u):=
 ⟨h.os,h.tape,h.output,by have:=h.size;simp [World.setCell];exact this,fun k hk hn=>by
  rw[Below.heap_setCell _ _ _ _ (fun e=>by subst e;rcases hp with h1 | h1;exact hn h1;omega)];exact h.block k hk hn⟩
theorem Kept.of_below {S:List Nat} {B:Nat} {w w':World} (h:Below B w w') (hB:w.heap.size≤B):Kept S w w':=
 ⟨h.os,h.tape,h.output,h.size,fun k hk _=>h.block k (by omega)⟩
theorem Kept.below {w w':World} (h:Kept [] w w'):Below w.heap.size w w':=⟨h.os,h.tape,h.output,h.size,fun k hk=>h.block k hk (by simp)⟩
theorem Kept.cell {S:List Nat} {w w':World} (h:Kept S w w') {p:Addr} (hp:p.block<w.heap.size) (hn:p.block∉S):w'.cell? p=w.cell? p:=World.cell?_of_block (w:=w) (h.block p.block hp hn)
theorem Kept.at {S:List Nat} {w w':World} (h:Kept S w w') {k:Nat} {o:Obj} (hk:w.heap[k]? = some o) (hn:k∉S):w'.heap[k]? = some o:=(h.block k (lt_of_block hk) hn).trans hk
theorem heap_setCell_at {w:World} {b:Nat} {cs:Array Value} {t:TypeId} (h:w.heap[b]? = some (.cells cs t (0,0))) (i:Nat) (v:Value) :
  (w.setCell ⟨b,i,none⟩ v).heap[b]? = some (.cells (cs.setIfInBounds i v) t (0,0)):=by
 simp [World.setCell,Array.getElem?_modify,h]
theorem cell_at {w:World} {b:Nat} {cs:Array Value} {t:TypeId} (h:w.heap[b]? = some (.cells cs t (0,0))) (i:Nat):w.cell? ⟨b,i,none⟩=cs[i]?:=by
 simp [World.cell?,h]
theorem free_at {w:World} {b:Nat} {cs:Array Value} {t:TypeId} (h:w.heap[b]? = some (.cells cs t (0,0))) (i:Nat):w.frozen? ⟨b,i,none⟩=false:=by
 simp [World.frozen?,h]
abbrev S (l:List UInt8):Value:=.string ⟨l.toArray⟩
abbrev I (n:Int):Value:=.int .i64 n
abbrev Ptr (b:Nat):Value:=.pointer (some ⟨b,0,none⟩)
@[go_sem] theorem str_add (a c:List UInt8):(⟨a.toArray⟩:ByteArray)++⟨c.toArray⟩=⟨(a++c).toArray⟩:=by
 apply ByteArray.ext;simp
@[go_sem] theorem str_add_nil (a:List UInt8):(⟨a.toArray⟩:ByteArray)++⟨#[]⟩=⟨(a++[]).toArray⟩:=str_add a []
@[go_sem] theorem str_nil_add (a:List UInt8):(⟨#[]⟩:ByteArray)++⟨a.toArray⟩=⟨a.toArray⟩:=str_add [] a
@[go_sem] theorem str_cut (l:List UInt8) (a b:Nat):(⟨l.toArray⟩:ByteArray).extract a b=⟨((l.take b).drop a).toArray⟩:=by
 rw[Lib.extract_eq];simp [List.drop_take]
abbrev B (c:UInt8):Value:=.int .u8 (c.toNat:Int)
theorem ret_I {a b:Int} (h:a=b):Ending.returned (I a) = .returned (I b):=by rw[h]
theorem ret_B {a b:Bool} (h:a=b):Ending.returned (.bool a) = .returned (.bool b):=by rw[h]
theorem ret_S {a b:List UInt8} (h:a=b):Ending.returned (S a) = .returned (S b):=by rw[h]
theorem heap_new (w:World) (o:Obj):(w.alloc o).heap[w.heap.size]? = some o:=by
 show (w.heap.push o)[w.heap.size]? = _
 simp
theorem Kept.new {a b c:World} {S':List Nat} (h:Kept [] a b) (k:Kept S' b c) (hs:∀ x∈S',a.heap.size≤x):Kept [] a c:=h.trans k fun x hx=>.inr (hs x hx)
theorem Kept.new1 {a b c:World} {x:Nat} (h:Kept [] a b) (k:Kept [x] b c) (hs:a.heap.size≤x):Kept [] a c:=h.new k fun y hy=>by simp at hy;omega
def byteAt (l:List UInt8) (p:Nat):UInt8:=l.getD p 0
theorem byteAt_le (l:List UInt8) (p:Nat):(0:Int)≤(byteAt l p).toNat∧((byteAt l p).toNat:Int)≤255:=by have:=(byteAt l p).toNat_lt;omega
theorem byteAt_eq (l:List UInt8) (p:Nat) (h:p<l.length):byteAt l p=l[p]:=by simp [byteAt,List.getD,h]
@[go_sem] theorem str_get (l:List UInt8) (p:Nat) (h:p<(⟨l.toArray⟩:ByteArray).size):(⟨l.toArray⟩:ByteArray)[p]'h=byteAt l p:=by
 have h':p<l.length:=by simpa [ByteArray.size] using h
 rw[byteAt_eq l p h']
 rfl
@[go_sem] theorem wrap_byte (c:UInt8):wrap64 (c.toNat:Int)=c.toNat:=by
 have h1:=c.toNat_lt
 have h2:(0:Int)≤c.toNat∧(c.toNat:Int)≤255:=by omega
 generalize (c.toNat:Int)=x at *
 unfold wrap64
 omega
abbrev Row (w:World) (b:Nat) (l:List UInt8):Prop:=w.heap[b]? = some (.cells (Lib.byteCells l).toArray 5 (0,0))
theorem byteCells_at (l:List UInt8) (i:Nat) (h:i<l.length):(Lib.byteCells l)[i]? = some (B (byteAt l i)):=by
 simp [Lib.byteCells,h,byteAt_eq l i h]
theorem Row.cell {w:World} {b:Nat} {l:List UInt8} (h:Row w b l) (i:Nat) (hi:i<l.length):w.cell? ⟨b,i,none⟩=some (B (byteAt l i)):=by
 rw[cell_at h,← Array.getElem?_toList];exact byteCells_at l i hi
theorem Row.free {w:World} {b:Nat} {l:List UInt8} (h:Row w b l) (i:Nat):w.frozen? ⟨b,i,none⟩=false:=free_at h i
theorem Row.set {w:World} {b:Nat} {l:List UInt8} (h:Row w b l) (i:Nat) (c:UInt8):Row (w.setCell ⟨b,i,none⟩ (B c)) b (l.set i c):=by
 have:=heap_setCell_at h i (B c)
 rw[Row,this]
 congr 2
 simp [Lib.byteCells,List.map_set]
theorem Row.kept {S:List Nat} {w w':World} {b:Nat} {l:List UInt8} (h:Row w b l) (k:Kept S w w') (hn:b∉S):Row w' b l:=k.at h hn
theorem Row.lt {w:World} {b:Nat} {l:List UInt8} (h:Row w b l):b<w.heap.size:=lt_of_block h
def zerosL (n:Nat):List UInt8:=List.replicate n 0
theorem zerosL_len (n:Nat):(zerosL n).length=n:=by simp [zerosL]
theorem byte_info:(Tryz.prog.info? 5).map (fun i=>(i.zero,i.size,i.bytes))=some (some (.int .u8 0),1,1):=by kernel_rfl
theorem madeZ (n:Nat):madeCells #[.int .u8 0] n=(Lib.byteCells (zerosL n)).toArray:=by
 apply Array.ext'
 rw[toList_madeCells_one]
 simp [Lib.byteCells,zerosL]
theorem make_bytes (w:World) (n:Nat) (h:n≤1000000000) :
  (Instr.makeSlice 52 (I n) (I n)).run Tryz.prog w = .ok (.slice (some ⟨w.heap.size,0,none⟩) n n) (w.alloc (.cells (Lib.byteCells (zerosL n)).toArray 5)):=by
 obtain⟨i,hi,hz,hs,hb⟩:=info_parts byte_info
 have hr:=run_make (P:=Tryz.prog) w 52 5 i _ Tryz.underlying52 hi hz .i64 .i64 n n (by omega) (Int.le_refl _) (by rw[hb];omega) (by omega)
 simp only[Int.toNat_natCast,hs,Nat.mul_one] at hr
 rw[hr]
 show Result.ok _ (w.alloc (.cells (madeCells #[.int .u8 0] n) 5))=_
 rw[madeZ]
theorem conv_row {w:World} {b:Nat} {l:List UInt8} (h:Row w b l) (c:Nat):(convert 52 9 (.slice (some ⟨b,0,none⟩) l.length c)).run Tryz.prog w = .ok (S l) w:=by
 have hr:=run_convert_bytes_arg (P:=Tryz.prog) w 52 5 Tryz.underlying52 Tryz.underlying5 b 0 l.length c (l.map fun c=>(c.toNat:Int)) (by simp) (fun i hi=>by
  rw[cell_at h,Nat.zero_add,← Array.getElem?_toList]
  simp [Lib.byteCells,List.getD,hi]) 9 Tryz.underlying9
 rw[hr]
 have:strOfNums (l.map fun c=>(c.toNat:Int))=⟨l.toArray⟩:=by
  unfold strOfNums;rw[List.map_map];congr 1
  have:l.map ((fun n:Int=>UInt8.ofNat n.toNat) ∘ fun c:UInt8=>(c.toNat:Int))=l:=by
   conv=>rhs;rw[← List.map_id l]
   apply List.map_congr_left;intro x _;simp
  rw[this]
 rw[this]
structure Fl where
 bs:List UInt8
 cs:List Int
 st:Int
 armed:Int
 keep:Int
 mask:UInt8
 dead:Bool
abbrev Nums (w:World) (b:Nat) (l:List Int):Prop:=w.heap[b]? = some (.cells (l.map fun n=>I n).toArray 3 (0,0))
def numAt (l:List Int) (i:Nat):Int:=l.getD i 0
theorem Nums.cell {w:World} {b:Nat} {l:List Int} (h:Nums w b l) (i:Nat) (hi:i<l.length):w.cell? ⟨b,i,none⟩=some (I (numAt l i)):=by
 rw[cell_at h,← Array.getElem?_toList]
 simp [numAt,hi]
theorem Nums.free {w:World} {b:Nat} {l:List Int} (h:Nums w b l) (i:Nat):w.frozen? ⟨b,i,none⟩=false:=free_at h i
theorem Nums.set {w:World} {b:Nat} {l:List Int} (h:Nums w b l) (i:Nat) (c:Int):Nums (w.setCell ⟨b,i,none⟩ (I c)) b (l.set i c):=by
 have:=heap_setCell_at h i (I c)
 rw[Nums,this]
 congr 2
 simp [List.map_set]
def RowX (w:World) (b:Nat) (l:List UInt8):Prop:=∃ X:Array Value,w.heap[b]? = some (.cells ((Lib.byteCells l).toArray++X) 5 (0,0))
theorem RowX.lt {w:World} {b:Nat} {l:List UInt8} (h:RowX w b l):b<w.heap.size:=by obtain⟨X,h⟩:=h;exact lt_of_block h
theorem RowX.cell {w:World} {b:Nat} {l:List UInt8} (h:RowX w b l) (i:Nat) (hi:i<l.length):w.cell? ⟨b,i,none⟩=some (B (byteAt l i)):=by
 obtain⟨X,h⟩:=h
 rw[cell_at h,Array.getElem?_append_left (by simp [Lib.byteCells];exact hi),← Array.getElem?_toList]
 exact byteCells_at l i hi
theorem RowX.free {w:World} {b:Nat} {l:List UInt8} (h:RowX w b l) (i:Nat):w.frozen? ⟨b,i,none⟩=false:=by obtain⟨X,h⟩:=h;exact free_at h i
theorem RowX.at {w w':World} {b:Nat} {l:List UInt8} (h:RowX w b l) (e:w'.heap[b]? = w.heap[b]?):RowX w' b l:=by obtain⟨X,h⟩:=h;exact ⟨X,e.trans h⟩
theorem RowX.kept {w w':World} {b:Nat} {l:List UInt8} {T:List Nat} (h:RowX w b l) (k:Kept T w w') (hb:b∉T):RowX w' b l:=h.at (k.block b h.lt hb)
theorem RowX.set {w:World} {b:Nat} {l:List UInt8} (h:RowX w b l) (i:Nat) (c:UInt8):RowX (w.setCell ⟨b,i,none⟩ (B c)) b (l.set i c):=by
 obtain⟨X,h⟩:=h
 have h1:=heap_setCell_at h i (B c)
 by_cases hi:i<l.length
 ·refine ⟨X,?_⟩
  rw[h1]
  congr 2
  apply Array.ext'
  simp [Lib.byteCells,List.map_set,List.set_append,hi]
 ·refine ⟨X.setIfInBounds (i-l.length) (B c),?_⟩
  rw[h1]
  congr 2
  apply Array.ext'
  simp [Lib.byteCells,List.set_append,hi,List.set_eq_of_length_le (by omega:l.length≤i)]
theorem Row.toX {w:World} {b:Nat} {l:List UInt8} (h:Row w b l):RowX w b l:=⟨#[],by rw[Array.append_empty];exact h⟩
def Fl.arr (f:Fl) (bb cb:Nat):Array Value:=#[.slice (some ⟨bb,0,none⟩) f.bs.length f.bs.length,.slice (some ⟨cb,0,none⟩) f.cs.length f.cs.length,I f.st,I f.armed,I f.keep,B f.mask,.bool f.dead]
structure FlAt (w:World) (fb bb cb:Nat) (f:Fl):Prop where
 blk:w.heap[fb]? = some (.cells (f.arr bb cb) 55 (0,0))
 row:RowX w bb f.bs
 cnt:Nums w cb f.cs
 n1:bb≠fb
 n2:cb≠fb
 n3:cb≠bb
 len:f.bs.length=512*f.cs.length
 few:f.cs.length≤256
 pos:1≤f.cs.length
section
variable {w:World} {fb bb cb:Nat} {f:Fl}
theorem FlAt.lt (h:FlAt w fb bb cb f):fb<w.heap.size:=lt_of_block h.blk
theorem FlAt.lt2 (h:FlAt w fb bb cb f):bb<w.heap.size:=h.row.lt
theorem FlAt.lt3 (h:FlAt w fb bb cb f):cb<w.heap.size:=lt_of_block h.cnt
theorem FlAt.kept {w':World} {T:List Nat} (h:FlAt w fb bb cb f) (k:Kept T w w') (h1:fb∉T) (h2:bb∉T) (h3:cb∉T):FlAt w' fb bb cb f:=
 ⟨k.at h.blk h1,h.row.kept k h2,k.at h.cnt h3,h.n1,h.n2,h.n3,h.len,h.few,h.pos⟩
theorem FlAt.same {w':World} (h:FlAt w fb bb cb f) (k:Kept [] w w'):FlAt w' fb bb cb f:=h.kept k (by simp) (by simp) (by simp)
theorem FlAt.free (h:FlAt w fb bb cb f) (i:Nat):w.frozen? ⟨fb,i,none⟩=false:=free_at h.blk i
theorem FlAt.cells (h:FlAt w fb bb cb f):w.cell? ⟨fb,0,none⟩=some (.slice (some ⟨bb,0,none⟩) f.bs.length f.bs.length)∧w.cell? ⟨fb,1,none⟩=some (.slice (some ⟨cb,0,none⟩) f.cs.length f.cs.length)∧w.cell? ⟨fb,2,none⟩=some (I f.st)∧w.cell? ⟨fb,3,none⟩=some (I f.armed)∧w.cell? ⟨fb,4,none⟩=some (I f.keep)∧w.cell? ⟨fb,5,none⟩=some (B f.mask)∧w.cell? ⟨fb,6,none⟩=some (.bool f.dead):=by
 have hb:=h.blk
 unfold Fl.arr at hb
 refine ⟨?_,?_,?_,?_,?_,?_,?_⟩ <;> (rw[cell_at hb];rfl)
theorem set_other {w:World} {b k i:Nat} {v:Value} (h:k≠b):(w.setCell ⟨b,i,none⟩ v).heap[k]? = w.heap[k]?:=Below.heap_setCell _ _ _ _ h
theorem FlAt.of (h:FlAt w fb bb cb f) {i:Nat} {v:Value} {f':Fl} (e1:f'.bs=f.bs) (e2:f'.cs=f.cs) (e3:(f.arr bb cb).setIfInBounds i v=f'.arr bb cb):FlAt (w.setCell ⟨fb,i,none⟩ v) fb bb cb f':=
 ⟨by rw[heap_setCell_at h.blk i v,e3],by rw[e1];exact h.row.at (set_other h.n1),by rw[e2];exact (set_other h.n2).trans h.cnt,h.n1,h.n2,h.n3,by rw[e1,e2];exact h.len,by rw[e2];exact h.few,by rw[e2];exact h.pos⟩
theorem FlAt.set2 (h:FlAt w fb bb cb f) (x:Int):FlAt (w.setCell ⟨fb,2,none⟩ (I x)) fb bb cb { f with st:=x }:=h.of rfl rfl rfl
theorem FlAt.set3 (h:FlAt w fb bb cb f) (x:Int):FlAt (w.setCell ⟨fb,3,none⟩ (I x)) fb bb cb { f with armed:=x }:=h.of rfl rfl rfl
theorem FlAt.set4 (h:FlAt w fb bb cb f) (x:Int):FlAt (w.setCell ⟨fb,4,none⟩ (I x)) fb bb cb { f with keep:=x }:=h.of rfl rfl rfl
theorem FlAt.set5 (h:FlAt w fb bb cb f) (x:UInt8):FlAt (w.setCell ⟨fb,5,none⟩ (B x)) fb bb cb { f with mask:=x }:=h.of rfl rfl rfl
theorem FlAt.set6 (h:FlAt w fb bb cb f) (x:Bool):FlAt (w.setCell ⟨fb,6,none⟩ (.bool x)) fb bb cb { f with dead:=x }:=h.of rfl rfl rfl
theorem FlAt.put (h:FlAt w fb bb cb f) (i:Nat) (c:UInt8):FlAt (w.setCell ⟨bb,i,none⟩ (B c)) fb bb cb { f with bs:=f.bs.set i c }:=by
 refine ⟨?_,h.row.set i c,(set_other h.n3).trans h.cnt,h.n1,h.n2,h.n3,by simp;exact h.len,h.few,h.pos⟩
 rw[(set_other (Ne.symm h.n1)),h.blk]
 unfold Fl.arr
 simp
theorem FlAt.count (h:FlAt w fb bb cb f) (i:Nat) (c:Int):FlAt (w.setCell ⟨cb,i,none⟩ (I c)) fb bb cb { f with cs:=f.cs.set i c }:=by
 refine ⟨?_,h.row.at (set_other (Ne.symm h.n3)),h.cnt.set i c,h.n1,h.n2,h.n3,by simp;exact h.len,by simp;exact h.few,by simp;exact h.pos⟩
 rw[(set_other (Ne.symm h.n2)),h.blk]
 unfold Fl.arr
 simp
end
def FlPost (v:Value) (fb bb cb:Nat) (w:World) (f:Fl) (e:Ending) (w':World):Prop:=e = .returned v∧FlAt w' fb bb cb f∧Kept [fb,bb,cb] w w'
def onL (bs:List UInt8) (a n:Nat) (g:Nat→UInt8→UInt8):List UInt8:=bs.mapIdx fun i b=>if a≤i∧i<a+n then g (i-a) b else b
theorem onL_len (bs:List UInt8) (a n:Nat) (g:Nat→UInt8→UInt8):(onL bs a n g).length=bs.length:=by simp [onL]
theorem onL_zero (bs:List UInt8) (a:Nat) (g:Nat→UInt8→UInt8):onL bs a 0 g=bs:=by
 apply List.ext_getElem
 ·simp [onL]
 ·intro i h1 h2
  simp only[onL,List.getElem_mapIdx]
  rw[if_neg (by omega)]
theorem onL_at (bs:List UInt8) (a n:Nat) (g:Nat→UInt8→UInt8) (i:Nat) (hi:i<bs.length):byteAt (onL bs a n g) i=if a≤i∧i<a+n then g (i-a) (byteAt bs i) else byteAt bs i:=by
 rw[byteAt_eq (onL bs a n g) i (by rw[onL_len];exact hi),byteAt_eq bs i hi]
 simp only[onL,List.getElem_mapIdx]
theorem onL_succ (bs:List UInt8) (a n:Nat) (g:Nat→UInt8→UInt8) (h:a+n<bs.length):onL bs a (n+1) g=(onL bs a n g).set (a+n) (g n (byteAt bs (a+n))):=by
 apply List.ext_getElem
 ·simp [onL]
 ·intro i h1 h2
  rw[List.getElem_set]
  simp only[onL,List.getElem_mapIdx]
  by_cases he:a+n=i
  ·subst he
   rw[if_pos rfl,if_pos (by omega),byteAt_eq bs (a+n) h]
   congr 1;omega
  ·rw[if_neg he]
   by_cases hr:a≤i∧i<a+n
   ·rw[if_pos hr,if_pos (by omega)]
   ·rw[if_neg hr,if_neg (by omega)]
def progL (bs:List UInt8) (a:Nat) (s:List UInt8):List UInt8:=onL bs a s.length fun j b=>b &&& byteAt s j
def eraseL (bs:List UInt8) (k:Nat):List UInt8:=onL bs (512*k) 512 fun _ _=>255
theorem wrap_small (n:Nat) (h:n<256):IntKind.u8.wrap (n:Int)=n:=by
 rw[IntKind.wrap_u8];omega
@[go_sem] theorem and_u8 (a c:UInt8):bits .and .u8 (a.toNat:Int) (c.toNat:Int)=((a &&& c).toNat:Int):=by
 have ha:=a.toNat_lt
 have hc:=c.toNat_lt
 have key:(BitVec.ofInt 8 (a.toNat:Int) &&& BitVec.ofInt 8 (c.toNat:Int)).toNat=(a &&& c).toNat:=by
  rw[BitVec.toNat_and,BitVec.toNat_ofInt,BitVec.toNat_ofInt,UInt8.toNat_and]
  congr 1 <;> omega
 show IntKind.u8.wrap (((BitVec.ofInt 8 (a.toNat:Int) &&& BitVec.ofInt 8 (c.toNat:Int)).toNat:Nat):Int)=_
 rw[key,wrap_small _ (a &&& c).toNat_lt]
@[go_sem] theorem or_u8 (a c:UInt8):bits .or .u8 (a.toNat:Int) (c.toNat:Int)=((a ||| c).toNat:Int):=by
 have ha:=a.toNat_lt
 have hc:=c.toNat_lt
 have key:(BitVec.ofInt 8 (a.toNat:Int) ||| BitVec.ofInt 8 (c.toNat:Int)).toNat=(a ||| c).toNat:=by
  rw[BitVec.toNat_or,BitVec.toNat_ofInt,BitVec.toNat_ofInt,UInt8.toNat_or]
  congr 1 <;> omega
 show IntKind.u8.wrap (((BitVec.ofInt 8 (a.toNat:Int) ||| BitVec.ofInt 8 (c.toNat:Int)).toNat:Nat):Int)=_
 rw[key,wrap_small _ (a ||| c).toNat_lt]
theorem or_all (a:UInt8):a ||| 255=255:=by
 have h:∀ n:Fin 256,UInt8.ofNat n.val ||| 255=255:=by decide
 have:=h ⟨a.toNat,a.toNat_lt⟩
 simpa using this
theorem and_all (c:UInt8):(255:UInt8) &&& c=c:=by
 have h:∀ n:Fin 256,(255:UInt8) &&& UInt8.ofNat n.val=UInt8.ofNat n.val:=by decide
 have:=h ⟨c.toNat,c.toNat_lt⟩
 simpa using this
@[go_sem] theorem or_u8_all (a:UInt8):bits .or .u8 (a.toNat:Int) 255=(255:Int):=by
 have:=or_u8 a 255
 rw[or_all] at this
 exact this
def withinF (f:Fl) (a n:Int):Bool:=decide (0≤a∧0≤n∧a≤f.bs.length∧n≤f.bs.length-a)
theorem FlAt.size {w:World} {fb bb cb:Nat} {f:Fl} (h:FlAt w fb bb cb f):f.bs.length≤131072:=by have:=h.len;have:=h.few;omega
theorem blocks_any (w:World) (fb bb cb:Nat) (f:Fl) (h:FlAt w fb bb cb f):Calls Tryz.prog 44 #[Ptr fb] w fun e w'=>e = .returned (I f.cs.length)∧w'=w:=by
 obtain⟨c0,c1,c2,c3,c4,c5,c6⟩:=h.cells
 have hl:=h.few
 go_enter Tryz.func44,Tryz.ntmps44
 go_wp2_with (fail)
 go_ret
 exact ⟨rfl,rfl⟩
theorem fdead_any (w:World) (fb bb cb:Nat) (f:Fl) (h:FlAt w fb bb cb f):Calls Tryz.prog 9 #[Ptr fb] w fun e w'=>e = .returned (.bool f.dead)∧w'=w:=by
 obtain⟨c0,c1,c2,c3,c4,c5,c6⟩:=h.cells
 go_enter Tryz.func9,Tryz.ntmps9
 go_wp2_with (fail)
 go_ret
 exact ⟨rfl,rfl⟩
theorem within_any (w:World) (fb bb cb:Nat) (f:Fl) (h:FlAt w fb bb cb f) (a n:Int):Calls Tryz.prog 205 #[Ptr fb,I a,I n] w fun e w'=>e = .returned (.bool (withinF f a n))∧w'=w:=by
 obtain⟨c0,c1,c2,c3,c4,c5,c6⟩:=h.cells
 have hl:=h.size
 have hlI:(f.bs.length:Int)≤131072:=by omega
 clear h
 go_enter Tryz.func205,Tryz.ntmps205
 by_cases a1:0≤a
 case neg =>
  have HY:Hid (withinF f a n=false):=Lib.hid (decide_eq_false (fun q=>a1 q.1))
  have d1:decide (0≤a)=false:=decide_eq_false a1
  clear a1
  go_wp2_with (fail)
  go_ret
  exact ⟨by rw[HY.out];rfl,rfl⟩
 by_cases a2:0≤n
 case neg =>
  have HY:Hid (withinF f a n=false):=Lib.hid (decide_eq_false (fun q=>a2 q.2.1))
  have d2:decide (0≤n)=false:=decide_eq_false a2
  clear a2
  go_wp2_with (fail)
  go_ret
  exact ⟨by rw[HY.out];rfl,rfl⟩
 by_cases a3:a≤f.bs.length
 case neg =>
  have HY:Hid (withinF f a n=false):=Lib.hid (decide_eq_false (fun q=>a3 q.2.2.1))
  have d3:decide (a≤(f.bs.length:Int))=false:=decide_eq_false a3
  clear a3
  go_wp2_with (fail)
  go_ret
  exact ⟨by rw[HY.out];rfl,rfl⟩
 by_cases a4:n≤f.bs.length-a
 case neg =>
  have HY:Hid (withinF f a n=false):=Lib.hid (decide_eq_false (fun q=>a4 q.2.2.2))
  have d4:decide (n≤(f.bs.length:Int)-a)=false:=decide_eq_false a4
  clear a4
  go_wp2_with (fail)
  go_ret
  exact ⟨by rw[HY.out];rfl,rfl⟩
 have HY:Hid (withinF f a n=true):=Lib.hid (decide_eq_true ⟨a1,a2,a3,a4⟩)
 go_wp2_with (fail)
 go_ret
 exact ⟨by rw[HY.out];rfl,rfl⟩
theorem ftold_any (b:Bool) (w:World):Calls Tryz.prog 212 #[.bool b] w fun e w'=>e = .returned (I (if b then 2 else 0))∧w'=w:=by
 cases b with
 | false =>
  go_enter Tryz.func212,Tryz.ntmps212
  go_wp2_with (fail)
  go_ret
  exact ⟨rfl,rfl⟩
 | true =>
  go_enter Tryz.func212,Tryz.ntmps212
  go_wp2_with (fail)
  go_ret
  exact ⟨rfl,rfl⟩
theorem fread_any (w:World) (fb bb cb:Nat) (f:Fl) (h:FlAt w fb bb cb f) (hd:f.dead=false) (a n:Nat) (hp:1≤n) (hn:a+n≤f.bs.length):Calls Tryz.prog 177 #[Ptr fb,I a,I n] w fun e w'=>e = .returned (.tuple #[S ((f.bs.drop a).take n),I 0])∧w'=w:=by
 have HB:=Lib.hid (within_any w fb bb cb f h a n)
 have hw:withinF f a n=true:=decide_eq_true ⟨by omega,by omega,by omega,by omega⟩
 rw[hw] at HB
 obtain⟨c0,c1,c2,c3,c4,c5,c6⟩:=h.cells
 rw[hd] at c6
 have hl:=h.size
 have hlI:(f.bs.length:Int)≤131072:=by omega
 have hnI:(a:Int)+n≤f.bs.length:=by omega
 have hcv:(convert 52 9 (.slice (some ⟨bb,a,none⟩) n (f.bs.length-a))).run Tryz.prog w = .ok (S ((f.bs.drop a).take n)) w:=by
  have hr:=run_convert_bytes_arg (P:=Tryz.prog) w 52 5 Tryz.underlying52 Tryz.underlying5 bb a n (f.bs.length-a) (((f.bs.drop a).take n).map fun c=>(c.toNat:Int)) (by simp;omega) (fun i hi=>by
   have h1:=h.row.cell (a+i) (by omega)
   rw[h1,byteAt_eq f.bs (a+i) (by omega)]
   simp [List.getD,List.getElem?_take,hi]
   rw[List.getElem?_eq_getElem (by omega)]
   rfl) 9 Tryz.underlying9
  rw[hr]
  have:strOfNums (((f.bs.drop a).take n).map fun c=>(c.toNat:Int))=⟨((f.bs.drop a).take n).toArray⟩:=by
   unfold strOfNums;rw[List.map_map];congr 1
   have:((f.bs.drop a).take n).map ((fun n:Int=>UInt8.ofNat n.toNat) ∘ fun c:UInt8=>(c.toNat:Int))=(f.bs.drop a).take n:=by
    conv=>rhs;rw[← List.map_id ((f.bs.drop a).take n)]
    apply List.map_congr_left;intro x _;simp
   rw[this]
  rw[this]
 have hlt:a<f.bs.length:=by omega
 have hltI:(a:Int)<f.bs.length:=by omega
 have hne:(f.bs.length-a==0)=false:=by simp;omega
 clear h hd hw
 go_enter Tryz.func177,Tryz.ntmps177
 go_wp2_with (fail)
 refine HB.out.mono ?_
 rintro e w1 ⟨rfl,rfl⟩
 go_wp2_with (fail)
 go_ret2
 exact ⟨rfl,rfl⟩
theorem step_any (w:World) (fb bb cb:Nat) (f:Fl) (h:FlAt w fb bb cb f) (ha:f.armed=0):Calls Tryz.prog 211 #[Ptr fb] w (FlPost (.bool false) fb bb cb w { f with st:=wrap64 (f.st+1) }):=by
 obtain⟨c0,c1,c2,c3,c4,c5,c6⟩:=h.cells
 have hf:=h.free
 rw[ha] at c3
 have H:=Lib.hid h
 clear h ha
 go_enter Tryz.func211,Tryz.ntmps211
 go_wp2_with (fail)
 go_ret
 exact ⟨rfl,H.out.set2 _,(Kept.refl _ _).setCell (.inl (by simp)) _⟩
def Fl.stepped (f:Fl):Fl:={ f with st:=wrap64 (f.st+1) }
theorem prog_any (w:World) (fb bb cb:Nat) (f:Fl) (h:FlAt w fb bb cb f) (hd:f.dead=false) (ha:f.armed=0) (a:Nat) (s:List UInt8) (hs:s≠[]) (hn:a+s.length≤f.bs.length) (hp:a/64=(a+s.length-1)/64) :
  Calls Tryz.prog 184 #[Ptr fb,I a,S s] w (FlPost (I 0) fb bb cb w { f.stepped with bs:=progL f.bs a s }):=by
 have HB:=Lib.hid (within_any w fb bb cb f h a s.length)
 have hw:withinF f a s.length=true:=decide_eq_true ⟨by omega,by omega,by omega,by omega⟩
 rw[hw] at HB
 have HST:=Lib.hid (step_any w fb bb cb f h ha)
 obtain⟨c0,c1,c2,c3,c4,c5,c6⟩:=h.cells
 rw[hd] at c6
 have hl:=h.size
 have hlI:(f.bs.length:Int)≤131072:=by omega
 have hnI:(a:Int)+s.length≤f.bs.length:=by omega
 have hse:(s==[])=false:=by simpa using hs
 have hse2:s.isEmpty=false:=by simpa using hs
 have hpos:1≤s.length:=by have:=List.length_pos_iff.2 hs;omega
 have hposI:(1:Int)≤s.length:=by omega
 have hq:((a:Int)/64 != ((a:Int)+s.length-1)/64)=false:=by simp;omega
 have HP:=Lib.hid (And.intro hp hs)
 have HD:=Lib.hid hd
 have HN:=Lib.hid hn
 clear h hw hd ha hp hs
 go_enter Tryz.func184,Tryz.ntmps184
 go_wp2_with (fail)
 refine HB.out.mono ?_
 rintro e w1 ⟨rfl,rfl⟩
 go_wp2_with (fail)
 refine HST.out.mono ?_
 rintro e w2 ⟨rfl,h2,k2⟩
 have H2:=Lib.hid (And.intro h2 k2)
 clear h2 k2 c0 c1 c2 c3 c4 c5 c6
 go_wp2_with (fail)
 go_loopw [39] (fun i wr=>∃ k:Nat,k≤s.length∧i=I k∧FlAt wr fb bb cb { f.stepped with bs:=onL f.bs a k fun j b=>b &&& byteAt s j }∧Kept [fb,bb,cb] w1 wr) (fun i _=>s.length-(intOf i).toNat)
 case atStart=>exact ⟨0,by omega,rfl,by rw[onL_zero];exact H2.out.1,H2.out.2⟩
 case round =>
  obtain⟨k,hk,rfl,h3,k3⟩:=hrel
  obtain⟨cur,hcur⟩:∃ cur,(onL f.bs a k fun j b=>b &&& byteAt s j)=cur:=⟨_,rfl⟩
  rw[hcur] at h3
  obtain⟨c0,c1,c2,c3,c4,c5,c6⟩:=h3.cells
  have hcl:cur.length=f.bs.length:=by rw[← hcur,onL_len]
  by_cases hlt:k<s.length
  ·have hltI:(k:Int)<s.length:=by omega
   have hcell:=h3.row.cell (a+k) (by show a+k<cur.length;omega)
   have hat:byteAt cur (a+k)=byteAt f.bs (a+k):=by rw[← hcur,onL_at _ _ _ _ _ (by omega),if_neg (by omega)]
   have hfree:=h3.row.free
   have hnext:=onL_succ f.bs a k (fun j b=>b &&& byteAt s j) (by omega)
   rw[hcur,← hat] at hnext
   have H3:=Lib.hid (And.intro h3 (And.intro k3 hnext))
   have HCL:=Lib.hid hcl
   simp only at hcell c0
   rw[hcl] at c0
   clear h3 k3 hat hnext hcur hcl
   go_wp2_with (fail)
   go_roundw
   case rel =>
    have q:=H3.out.1.put (a+k) (byteAt cur (a+k) &&& byteAt s k)
    have q2:=H3.out.2.1.setCell (.inl (by simp):(⟨bb,a+k,none⟩:Addr).block∈[fb,bb,cb]∨_) (B (byteAt cur (a+k) &&& byteAt s k))
    simp only[B,UInt8.toNat_and] at q q2
    exact ⟨k+1,by omega,by go_num,by rw[H3.out.2.2];exact q,q2⟩
   case measure=>simp [intOf];omega
  ·have hke:k=s.length:=by omega
   have hdone:¬ (k:Int)<s.length:=by omega
   have hdf:decide ((k:Int)<s.length)=false:=decide_eq_false hdone
   have hfin:cur=progL f.bs a s:=by rw[← hcur,hke];rfl
   have H3:=Lib.hid (And.intro h3 (And.intro k3 hfin))
   clear h3 k3 hcur hcl hke hfin c0 c1 c2 c3 c4 c5 c6
   go_wp2_with (fail)
   refine (ftold_any false wr).mono ?_
   rintro e w4 ⟨rfl,rfl⟩
   go_wp2_with (fail)
   go_ret
   exact ⟨rfl,by rw[← H3.out.2.2];exact H3.out.1,H3.out.2.1⟩
end Go.Proofs.YteplbljjlbdhaacGreatDoor
