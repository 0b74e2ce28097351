import Derived.Test.YmbrbwBAgrees
